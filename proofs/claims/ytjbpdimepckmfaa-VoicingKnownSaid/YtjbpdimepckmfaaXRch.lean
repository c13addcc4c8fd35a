/- Chapter 27: the reference's Check: the walk. Printed by gen_rch.py. -/
import Derived.Test.YtjbpdimepckmfaaXRva
import Derived.Test.YtjbpdimepckmfaaXRchAM
import Derived.Test.YtjbpdimepckmfaaXChkW
namespace Go.Proofs.Ytjbpdimepckmfaa
open Go.RowKit Go.Kq

theorem RdW.take {w : World} {b o : Nat} {n : Nat} {l : List Wk} (h : RdW w (some ⟨b, o, none⟩) n l) {i : Nat} (hi : i ≤ n) : RdW w (some ⟨b, o, none⟩) i (l.take i) :=
  ⟨by rw [List.length_take, h.1]; omega, fun j v hv => h.2 j v (by
    have hj := (List.getElem?_eq_some_iff.1 hv).1
    rw [List.length_take] at hj
    rwa [List.getElem?_take_of_lt (by omega)] at hv)⟩
set_option maxHeartbeats 4000000 in
set_option maxRecDepth 100000 in
theorem rCheck_any (A : Option Addr) (n ca : Nat) (l : List Wk) (w : World) (hx : RdW w A n l) (hf : Fits l) (hca : n ≤ ca) : Calls Try.prog 12 #[.slice A n ca] w fun e w' => e = .returned (.int .i64 (chkL l)) ∧ Kp No w w' := by
  have hl := hx.1
  have HF := Lib.hid hf
  clear hf
  by_cases hn : n ≤ 400
  · have HNL := Lib.hid (show ¬ 400 < l.length by omega)
    go_enter Try.func12, Try.ntmps12
    go_wp2_with fail
    go_loopw [3] (fun vi wr => ∃ i : Nat, i ≤ n ∧ vi = .int .i64 i ∧ (∀ (j : Nat) (v : Wk), j < i → l[j]? = some v → okW v = true) ∧ Kp No w wr) (fun vi _ => n - (intOf vi).toNat)
    case atStart => exact ⟨0, by omega, rfl, fun j v h => by omega, Kp.refl _ _⟩
    case round =>
      obtain ⟨i, hi, rfl, hok, hkp⟩ := hrel
      have HOK := Lib.hid hok
      clear hok
      by_cases hlt : i < n
      · obtain ⟨v, hv⟩ : ∃ v, l[i]? = some v := ⟨_, List.getElem?_eq_getElem (by omega)⟩
        obtain ⟨b, o, rfl, hb, hat⟩ := RdW.at_ (hx.no hkp) hv
        have hva := rvalid_any v wr (HF.out v (List.mem_of_getElem? hv))
        have HV := Lib.hid hv
        obtain ⟨c0, c1, c2, c3, c4, c5, c6, c7, c8, c9, c10⟩ := hat
        clear hv
        go_wp2_with fail
        refine hva.mono ?_
        cases hw : okW v
        · rintro e w1 ⟨rfl, hk1⟩
          have HC := Lib.hid (chk_arg HNL.out HV.out hw)
          go_wp2_with fail
          go_ret
          exact ⟨ret_i64 HC.out.symm, hkp.tr hk1⟩
        · rintro e w1 ⟨rfl, hk1⟩
          go_wp2_with fail
          go_roundw
          case rel => exact ⟨i + 1, by omega, by go_num, fun j u hj hu => by
            by_cases e : j = i
            · subst e
              rw [HV.out] at hu
              cases hu
              exact hw
            · exact HOK.out j u (by omega) hu, hkp.tr hk1⟩
          case measure => simp [intOf]; omega
      · obtain rfl : i = n := by omega
        have HAL := Lib.hid (chk_form HNL.out (all_at fun j v hv => HOK.out j v (by have := (List.getElem?_eq_some_iff.1 hv).1; omega) hv))
        go_wp2_with fail
        obtain ⟨W0, rfl⟩ : ∃ W0 : World, W0 = wr := ⟨_, rfl⟩
        clear HOK
        go_loopw [4] (fun vi wr => ∃ i' : Nat, i' ≤ i ∧ vi = .int .i64 i' ∧ (∀ (j : Nat) (v : Wk), j < i' → l[j]? = some v → stepOk (l.take j) v = true) ∧ Kp No W0 wr) (fun vi _ => i - (intOf vi).toNat)
        case atStart => exact ⟨0, by omega, rfl, fun j v h => by omega, Kp.refl _ _⟩
        case round =>
          obtain ⟨i', hi', rfl, hst, hkq⟩ := hrel
          have HST := Lib.hid hst
          have hkw : Kp No w wr := hkp.tr hkq
          clear hst
          by_cases hlt' : i' < i
          · obtain ⟨v, hv⟩ : ∃ v, l[i']? = some v := ⟨_, List.getElem?_eq_getElem (by omega)⟩
            obtain ⟨b, o, rfl, hb, hat⟩ := RdW.at_ (hx.no hkw) hv
            have HSP := Lib.hid (show stepOk (l.take i') v = ((match (l.take i').getLast? with | none => true | some u => ltW u v) && decide (v.num = (many (l.take i') v.wk : Int) + 1)) from rfl)
            have HV := Lib.hid hv
            obtain ⟨m, hm⟩ : ∃ m, m = many (l.take i') v.wk := ⟨_, rfl⟩
            rw [← hm] at HSP
            have hm4 : m ≤ 400 := by rw [hm]; have := many_le (l.take i') v.wk; rw [List.length_take] at this; omega
            have HM := Lib.hid hm
            have HTK := Lib.hid (fun (w' : World) (k : Kp No wr w') => (rmany_any (some ⟨b, o, none⟩) i' ca (l.take i') v.wk w' (RdW.take (hx.no (hkw.tr k)) (by omega)) (by omega)))
            rw [← hm] at HTK
            obtain ⟨c0, c1, c2, c3, c4, c5, c6, c7, c8, c9, c10⟩ := hat
            have hic : (i' : Int) < (i : Int) := by omega
            have hca' : i' ≤ ca := by omega
            clear hv hm
            go_wp2_with fail
            rcases Nat.eq_zero_or_pos i' with h0 | h0
            · have HSP2 : Hid (stepOk (l.take i') v = (true && decide (v.num = (m : Int) + 1))) := Lib.hid (HSP.out.trans (by rw [h0]; try rfl))
              have H0 := Lib.hid h0
              clear h0
              have FS : Stab (fun ix wz u => True) := fun ix u wz wz' kz h => trivial
              replace FS := Lib.hid FS
              refine wp_region_each (fun ix u => match ix with | 0 => u = .int .i64 (i' : Int) | 1 => u = .bool false | 2 => u = .bool false | 3 => u = undef | 4 => u = undef | 5 => u = undef | 6 => u = undef | 7 => u = undef | 8 => u = undef | 9 => u = undef | 10 => u = undef | 11 => u = undef | 12 => u = undef | 13 => u = undef | 14 => u = .bool false | 15 => u = .bool false | 16 => u = .slice (some ⟨b, o, none⟩) i ca | 17 => u = .int .i64 (i' : Int) | 18 => u = .pointer (some ⟨b, o + i' * 11, none⟩) | 19 => u = .pointer (some ⟨b, o + i' * 11 + 1, none⟩) | 20 => u = .int .i64 v.num | 21 => u = .slice (some ⟨b, o, none⟩) i ca | 22 => u = .int .i64 (i' : Int) | 23 => u = .slice (some ⟨b, o, none⟩) i' ca | 24 => u = .slice (some ⟨b, o, none⟩) i ca | 25 => u = .int .i64 (i' : Int) | 26 => u = .pointer (some ⟨b, o + i' * 11, none⟩) | 27 => u = .pointer (some ⟨b, o + i' * 11, none⟩) | 28 => u = .int .i64 v.wk | 29 => u = .int .i64 (m : Int) | 30 => u = .int .i64 ((m : Int) + 1) | 31 => u = .bool (v.num != (m : Int) + 1) | 32 => u = .bool (v.num != (m : Int) + 1) | _ => True) (HvW wr (fun ix wz u => True)) (by kernel_rfl) (by kernel_rfl) (by kernel_rfl) ?_ ?_ ?_
              · exact HvW.start _ _
              · refine ⟨?_, ?_, ?_, ?_, ?_, ?_, ?_, ?_, ?_, ?_, ?_, ?_, ?_, ?_, ?_, ?_, ?_, ?_, ?_, ?_, ?_, ?_, ?_, ?_, ?_, ?_, ?_, ?_, ?_, ?_, ?_, ?_, ?_, trivial⟩
                · intro r a w' hf hg hW hr hd K hK
                  refine wpOp_of rfl rfl ?_
                  have e0 : a.tmps.getD 4 undef = .int .i64 (i' : Int) := hf.evalFree (by kernel_rfl)
                  go_simp
                  exact hK _ _ rfl (hW.upd 0 _ trivial)
                · intro r a w' hf hg hW hr hd K hK
                  refine wpOp_of rfl rfl ?_
                  refine hf.depE hg hd 0 26 (by kernel_rfl) fun u0 e0 g0 h0 => ?_
                  replace g0 : u0 = .int .i64 (i' : Int) := g0
                  subst g0
                  have h00 : decide ((0 : Int) < (i' : Int)) = false := by have := H0.out; rw [decide_eq_false_iff_not]; omega
                  have h01 : decide (0 < i') = false := by have := H0.out; rw [decide_eq_false_iff_not]; omega
                  go_simp
                  exact hK _ _ rfl (hW.upd 1 _ trivial)
                · intro r a w' hf hg hW hr hd K hK
                  refine wpOp_of rfl rfl ?_
                  refine hf.depE hg hd 1 27 (by kernel_rfl) fun u0 e0 g0 h0 => ?_
                  replace g0 : u0 = .bool false := g0
                  subst g0
                  go_simp
                  exact hK _ _ rfl (hW.upd 2 _ trivial)
                · intro r a w' hf hg hW hr hd K hK
                  refine hf.depE hg hd 2 28 (by kernel_rfl) fun uG eG gG _ => ?_
                  replace gG : uG = .bool false := gG
                  subst gG
                  refine wpOp_skip rfl rfl rfl rfl eG (by decide) ?_
                  exact hK _ _ rfl (hW.upd 3 _ trivial)
                · intro r a w' hf hg hW hr hd K hK
                  refine hf.depE hg hd 2 28 (by kernel_rfl) fun uG eG gG _ => ?_
                  replace gG : uG = .bool false := gG
                  subst gG
                  refine wpOp_skip rfl rfl rfl rfl eG (by decide) ?_
                  exact hK _ _ rfl (hW.upd 4 _ trivial)
                · intro r a w' hf hg hW hr hd K hK
                  refine hf.depE hg hd 2 28 (by kernel_rfl) fun uG eG gG _ => ?_
                  replace gG : uG = .bool false := gG
                  subst gG
                  refine wpOp_skip rfl rfl rfl rfl eG (by decide) ?_
                  exact hK _ _ rfl (hW.upd 5 _ trivial)
                · intro r a w' hf hg hW hr hd K hK
                  refine hf.depE hg hd 2 28 (by kernel_rfl) fun uG eG gG _ => ?_
                  replace gG : uG = .bool false := gG
                  subst gG
                  refine wpOp_skip rfl rfl rfl rfl eG (by decide) ?_
                  exact hK _ _ rfl (hW.upd 6 _ trivial)
                · intro r a w' hf hg hW hr hd K hK
                  refine hf.depE hg hd 2 28 (by kernel_rfl) fun uG eG gG _ => ?_
                  replace gG : uG = .bool false := gG
                  subst gG
                  refine wpOp_skip rfl rfl rfl rfl eG (by decide) ?_
                  exact hK _ _ rfl (hW.upd 7 _ trivial)
                · intro r a w' hf hg hW hr hd K hK
                  refine hf.depE hg hd 2 28 (by kernel_rfl) fun uG eG gG _ => ?_
                  replace gG : uG = .bool false := gG
                  subst gG
                  refine wpOp_skip rfl rfl rfl rfl eG (by decide) ?_
                  exact hK _ _ rfl (hW.upd 8 _ trivial)
                · intro r a w' hf hg hW hr hd K hK
                  refine hf.depE hg hd 2 28 (by kernel_rfl) fun uG eG gG _ => ?_
                  replace gG : uG = .bool false := gG
                  subst gG
                  refine wpOp_skip rfl rfl rfl rfl eG (by decide) ?_
                  exact hK _ _ rfl (hW.upd 9 _ trivial)
                · intro r a w' hf hg hW hr hd K hK
                  refine hf.depE hg hd 2 28 (by kernel_rfl) fun uG eG gG _ => ?_
                  replace gG : uG = .bool false := gG
                  subst gG
                  refine wpOp_skip rfl rfl rfl rfl eG (by decide) ?_
                  exact hK _ _ rfl (hW.upd 10 _ trivial)
                · intro r a w' hf hg hW hr hd K hK
                  refine hf.depE hg hd 2 28 (by kernel_rfl) fun uG eG gG _ => ?_
                  replace gG : uG = .bool false := gG
                  subst gG
                  refine wpOp_skip rfl rfl rfl rfl eG (by decide) ?_
                  exact hK _ _ rfl (hW.upd 11 _ trivial)
                · intro r a w' hf hg hW hr hd K hK
                  refine hf.depE hg hd 2 28 (by kernel_rfl) fun uG eG gG _ => ?_
                  replace gG : uG = .bool false := gG
                  subst gG
                  refine wpOp_skip rfl rfl rfl rfl eG (by decide) ?_
                  exact hK _ _ rfl (hW.upd 12 _ trivial)
                · intro r a w' hf hg hW hr hd K hK
                  refine hf.depE hg hd 2 28 (by kernel_rfl) fun uG eG gG _ => ?_
                  replace gG : uG = .bool false := gG
                  subst gG
                  refine wpOp_skip rfl rfl rfl rfl eG (by decide) ?_
                  exact hK _ _ rfl (hW.upd 13 _ trivial)
                · intro r a w' hf hg hW hr hd K hK
                  refine wpOp_of rfl rfl ?_
                  refine hf.depE hg hd 2 28 (by kernel_rfl) fun u0 e0 g0 h0 => ?_
                  replace g0 : u0 = .bool false := g0
                  subst g0
                  have e0' := get_of_getD e0
                  refine hf.depE hg hd 13 39 (by kernel_rfl) fun u1 e1 g1 h1 => ?_
                  replace g1 : u1 = undef := g1
                  subst g1
                  have e1' := get_of_getD e1
                  go_simp
                  exact hK _ _ rfl (hW.upd 14 _ trivial)
                · intro r a w' hf hg hW hr hd K hK
                  refine wpOp_of rfl rfl ?_
                  refine hf.depE hg hd 14 40 (by kernel_rfl) fun u0 e0 g0 h0 => ?_
                  replace g0 : u0 = .bool false := g0
                  subst g0
                  go_simp
                  exact hK _ _ rfl (hW.upd 15 _ trivial)
                · intro r a w' hf hg hW hr hd K hK
                  refine hf.depE hg hd 15 41 (by kernel_rfl) fun uG eG gG _ => ?_
                  replace gG : uG = .bool false := gG
                  subst gG
                  refine wpOp_run rfl rfl rfl rfl eG ?_
                  have e0 : a.tmps.getD 0 undef = .slice (some ⟨b, o, none⟩) i ca := hf.evalFree (by kernel_rfl)
                  go_simp
                  exact hK _ _ rfl (hW.upd 16 _ trivial)
                · intro r a w' hf hg hW hr hd K hK
                  refine hf.depE hg hd 15 41 (by kernel_rfl) fun uG eG gG _ => ?_
                  replace gG : uG = .bool false := gG
                  subst gG
                  refine wpOp_run rfl rfl rfl rfl eG ?_
                  have e0 : a.tmps.getD 4 undef = .int .i64 (i' : Int) := hf.evalFree (by kernel_rfl)
                  go_simp
                  exact hK _ _ rfl (hW.upd 17 _ trivial)
                · intro r a w' hf hg hW hr hd K hK
                  refine hf.depE hg hd 15 41 (by kernel_rfl) fun uG eG gG _ => ?_
                  replace gG : uG = .bool false := gG
                  subst gG
                  refine wpOp_run rfl rfl rfl rfl eG ?_
                  refine hf.depE hg hd 16 42 (by kernel_rfl) fun u0 e0 g0 h0 => ?_
                  replace g0 : u0 = .slice (some ⟨b, o, none⟩) i ca := g0
                  subst g0
                  refine hf.depE hg hd 17 43 (by kernel_rfl) fun u1 e1 g1 h1 => ?_
                  replace g1 : u1 = .int .i64 (i' : Int) := g1
                  subst g1
                  go_simp
                  exact hK _ _ rfl (hW.upd 18 _ trivial)
                · intro r a w' hf hg hW hr hd K hK
                  refine hf.depE hg hd 15 41 (by kernel_rfl) fun uG eG gG _ => ?_
                  replace gG : uG = .bool false := gG
                  subst gG
                  refine wpOp_run rfl rfl rfl rfl eG ?_
                  refine hf.depE hg hd 18 44 (by kernel_rfl) fun u0 e0 g0 h0 => ?_
                  replace g0 : u0 = .pointer (some ⟨b, o + i' * 11, none⟩) := g0
                  subst g0
                  go_simp
                  exact hK _ _ rfl (hW.upd 19 _ trivial)
                · intro r a w' hf hg hW hr hd K hK
                  refine hf.depE hg hd 15 41 (by kernel_rfl) fun uG eG gG _ => ?_
                  replace gG : uG = .bool false := gG
                  subst gG
                  refine wpOp_run rfl rfl rfl rfl eG ?_
                  refine hf.depE hg hd 19 45 (by kernel_rfl) fun u0 e0 g0 h0 => ?_
                  replace g0 : u0 = .pointer (some ⟨b, o + i' * 11 + 1, none⟩) := g0
                  subst g0
                  have z0 := hW.kp.cell c1 id
                  go_simp
                  exact hK _ _ rfl (hW.upd 20 _ trivial)
                · intro r a w' hf hg hW hr hd K hK
                  refine hf.depE hg hd 15 41 (by kernel_rfl) fun uG eG gG _ => ?_
                  replace gG : uG = .bool false := gG
                  subst gG
                  refine wpOp_run rfl rfl rfl rfl eG ?_
                  have e0 : a.tmps.getD 0 undef = .slice (some ⟨b, o, none⟩) i ca := hf.evalFree (by kernel_rfl)
                  go_simp
                  exact hK _ _ rfl (hW.upd 21 _ trivial)
                · intro r a w' hf hg hW hr hd K hK
                  refine hf.depE hg hd 15 41 (by kernel_rfl) fun uG eG gG _ => ?_
                  replace gG : uG = .bool false := gG
                  subst gG
                  refine wpOp_run rfl rfl rfl rfl eG ?_
                  have e0 : a.tmps.getD 4 undef = .int .i64 (i' : Int) := hf.evalFree (by kernel_rfl)
                  go_simp
                  exact hK _ _ rfl (hW.upd 22 _ trivial)
                · intro r a w' hf hg hW hr hd K hK
                  refine hf.depE hg hd 15 41 (by kernel_rfl) fun uG eG gG _ => ?_
                  replace gG : uG = .bool false := gG
                  subst gG
                  refine wpOp_run rfl rfl rfl rfl eG ?_
                  refine hf.depE hg hd 21 47 (by kernel_rfl) fun u0 e0 g0 h0 => ?_
                  replace g0 : u0 = .slice (some ⟨b, o, none⟩) i ca := g0
                  subst g0
                  refine hf.depE hg hd 22 48 (by kernel_rfl) fun u1 e1 g1 h1 => ?_
                  replace g1 : u1 = .int .i64 (i' : Int) := g1
                  subst g1
                  go_simp
                  exact hK _ _ rfl (hW.upd 23 _ trivial)
                · intro r a w' hf hg hW hr hd K hK
                  refine hf.depE hg hd 15 41 (by kernel_rfl) fun uG eG gG _ => ?_
                  replace gG : uG = .bool false := gG
                  subst gG
                  refine wpOp_run rfl rfl rfl rfl eG ?_
                  have e0 : a.tmps.getD 0 undef = .slice (some ⟨b, o, none⟩) i ca := hf.evalFree (by kernel_rfl)
                  go_simp
                  exact hK _ _ rfl (hW.upd 24 _ trivial)
                · intro r a w' hf hg hW hr hd K hK
                  refine hf.depE hg hd 15 41 (by kernel_rfl) fun uG eG gG _ => ?_
                  replace gG : uG = .bool false := gG
                  subst gG
                  refine wpOp_run rfl rfl rfl rfl eG ?_
                  have e0 : a.tmps.getD 4 undef = .int .i64 (i' : Int) := hf.evalFree (by kernel_rfl)
                  go_simp
                  exact hK _ _ rfl (hW.upd 25 _ trivial)
                · intro r a w' hf hg hW hr hd K hK
                  refine hf.depE hg hd 15 41 (by kernel_rfl) fun uG eG gG _ => ?_
                  replace gG : uG = .bool false := gG
                  subst gG
                  refine wpOp_run rfl rfl rfl rfl eG ?_
                  refine hf.depE hg hd 24 50 (by kernel_rfl) fun u0 e0 g0 h0 => ?_
                  replace g0 : u0 = .slice (some ⟨b, o, none⟩) i ca := g0
                  subst g0
                  refine hf.depE hg hd 25 51 (by kernel_rfl) fun u1 e1 g1 h1 => ?_
                  replace g1 : u1 = .int .i64 (i' : Int) := g1
                  subst g1
                  go_simp
                  exact hK _ _ rfl (hW.upd 26 _ trivial)
                · intro r a w' hf hg hW hr hd K hK
                  refine hf.depE hg hd 15 41 (by kernel_rfl) fun uG eG gG _ => ?_
                  replace gG : uG = .bool false := gG
                  subst gG
                  refine wpOp_run rfl rfl rfl rfl eG ?_
                  refine hf.depE hg hd 26 52 (by kernel_rfl) fun u0 e0 g0 h0 => ?_
                  replace g0 : u0 = .pointer (some ⟨b, o + i' * 11, none⟩) := g0
                  subst g0
                  go_simp
                  exact hK _ _ rfl (hW.upd 27 _ trivial)
                · intro r a w' hf hg hW hr hd K hK
                  refine hf.depE hg hd 15 41 (by kernel_rfl) fun uG eG gG _ => ?_
                  replace gG : uG = .bool false := gG
                  subst gG
                  refine wpOp_run rfl rfl rfl rfl eG ?_
                  refine hf.depE hg hd 27 53 (by kernel_rfl) fun u0 e0 g0 h0 => ?_
                  replace g0 : u0 = .pointer (some ⟨b, o + i' * 11, none⟩) := g0
                  subst g0
                  have z0 := hW.kp.cell c0 id
                  go_simp
                  exact hK _ _ rfl (hW.upd 28 _ trivial)
                · intro r a w' hf hg hW hr hd K hK
                  refine hf.depE hg hd 15 41 (by kernel_rfl) fun uG eG gG _ => ?_
                  replace gG : uG = .bool false := gG
                  subst gG
                  refine wpOp_run rfl rfl rfl rfl eG ?_
                  refine hf.depE hg hd 23 49 (by kernel_rfl) fun u0 e0 g0 h0 => ?_
                  replace g0 : u0 = .slice (some ⟨b, o, none⟩) i' ca := g0
                  subst g0
                  refine hf.depE hg hd 28 54 (by kernel_rfl) fun u1 e1 g1 h1 => ?_
                  replace g1 : u1 = .int .i64 v.wk := g1
                  subst g1
                  go_simp
                  refine (HTK.out w' hW.kp).mono ?_
                  rintro e w'' ⟨rfl, rfl⟩
                  exact hK _ _ rfl (hW.upd 29 _ trivial)
                · intro r a w' hf hg hW hr hd K hK
                  refine hf.depE hg hd 15 41 (by kernel_rfl) fun uG eG gG _ => ?_
                  replace gG : uG = .bool false := gG
                  subst gG
                  refine wpOp_run rfl rfl rfl rfl eG ?_
                  refine hf.depE hg hd 29 55 (by kernel_rfl) fun u0 e0 g0 h0 => ?_
                  replace g0 : u0 = .int .i64 (m : Int) := g0
                  subst g0
                  go_simp
                  rw [IntWalk.i64_in _ (by omega)]
                  exact hK _ _ rfl (hW.upd 30 _ trivial)
                · intro r a w' hf hg hW hr hd K hK
                  refine hf.depE hg hd 15 41 (by kernel_rfl) fun uG eG gG _ => ?_
                  replace gG : uG = .bool false := gG
                  subst gG
                  refine wpOp_run rfl rfl rfl rfl eG ?_
                  refine hf.depE hg hd 20 46 (by kernel_rfl) fun u0 e0 g0 h0 => ?_
                  replace g0 : u0 = .int .i64 v.num := g0
                  subst g0
                  refine hf.depE hg hd 30 56 (by kernel_rfl) fun u1 e1 g1 h1 => ?_
                  replace g1 : u1 = .int .i64 ((m : Int) + 1) := g1
                  subst g1
                  go_simp
                  exact hK _ _ rfl (hW.upd 31 _ trivial)
                · intro r a w' hf hg hW hr hd K hK
                  refine wpOp_of rfl rfl ?_
                  refine hf.depE hg hd 15 41 (by kernel_rfl) fun u0 e0 g0 h0 => ?_
                  replace g0 : u0 = .bool false := g0
                  subst g0
                  have e0' := get_of_getD e0
                  refine hf.depE hg hd 31 57 (by kernel_rfl) fun u1 e1 g1 h1 => ?_
                  replace g1 : u1 = .bool (v.num != (m : Int) + 1) := g1
                  subst g1
                  have e1' := get_of_getD e1
                  go_simp
                  exact hK _ _ rfl (hW.upd 32 _ trivial)
              intro r' w6 hg hW hr'
              have hkN := hW.kp
              obtain ⟨q32, hq32⟩ : ∃ u, r' 32 = some u := Option.ne_none_iff_exists'.1 (hr' 32 (by decide))
              have hk32 := hg 32 q32 hq32
              replace hk32 : q32 = .bool (v.num != (m : Int) + 1) := hk32
              subst hk32
              simp only [List.length_cons, List.length_nil, Nat.reduceAdd, List.range_succ, List.range_zero, List.nil_append, List.cons_append, List.map_cons, List.map_nil, putAll, Act.put, List.setIfInBounds_toArray, List.set_cons_succ, List.set_cons_zero, hq32, Option.getD_some]
              clear hg hW hr' FS hq32
              by_cases hnm : v.num = (m : Int) + 1
              · have hne : (v.num != (m : Int) + 1) = false := by rw [hnm]; simp
                have HSP3 : Hid (stepOk (l.take i') v = true) := Lib.hid (HSP2.out.trans (by rw [decide_eq_true hnm]; try rfl))
                clear hnm
                go_wp2_with fail
                go_roundw
                case rel => exact ⟨i' + 1, by omega, by go_num, fun q u hq hu => by
                    by_cases e : q = i'
                    · subst e
                      rw [HV.out] at hu
                      cases hu
                      exact HSP3.out
                    · exact HST.out q u (by omega) hu, hkq.tr hkN⟩
                case measure => simp [intOf]; omega
              · have hne : (v.num != (m : Int) + 1) = true := by simp [hnm]
                have HSP3 : Hid (stepOk (l.take i') v = false) := Lib.hid (HSP2.out.trans (by rw [decide_eq_false hnm, Bool.and_false]))
                clear hnm
                go_wp2_with fail
                go_ret
                exact ⟨ret_i64 (by rw [HAL.out, if_neg (by rw [ordOk_stop HV.out HSP3.out]; simp)]), hkw.tr hkN⟩
            · obtain ⟨j, hj⟩ : ∃ j, i' = j + 1 := ⟨i' - 1, by omega⟩
              obtain ⟨pv, hu⟩ : ∃ pv, l[j]? = some pv := ⟨_, List.getElem?_eq_getElem (by omega)⟩
              obtain ⟨b', o', hbo, _, hau⟩ := RdW.at_ (hx.no hkw) hu
              cases hbo
              obtain ⟨d0, d1, d2, d3, d4, d5, d6, d7, d8, d9, d10⟩ := hau
              have hLU := take_last hu
              rw [← hj] at hLU
              have HSP1 : Hid (stepOk (l.take i') v = (ltW pv v && decide (v.num = (m : Int) + 1))) := Lib.hid (HSP.out.trans (by rw [hLU]))
              have hji : (j : Int) < (i : Int) := by omega
              have HJ := Lib.hid hj
              have hj1 : i' ≤ j + 1 := by omega
              have hj2 : j + 1 ≤ i' := by omega
              clear hu h0 HSP hLU hj
              cases hlt : ltW pv v
              · have HCL := Lib.hid hlt
                have HSP2 : Hid (stepOk (l.take i') v = false) := Lib.hid (HSP1.out.trans (by rw [hlt]; try rfl))
                clear hlt
                have FS : Stab (fun ix wz u => True) := fun ix u wz wz' kz h => trivial
                replace FS := Lib.hid FS
                refine wp_region_each (fun ix u => match ix with | 0 => u = .int .i64 (i' : Int) | 1 => u = .bool true | 2 => u = .bool true | 3 => u = .slice (some ⟨b, o, none⟩) i ca | 4 => u = .int .i64 (i' : Int) | 5 => u = .int .i64 (j : Int) | 6 => u = .pointer (some ⟨b, o + j * 11, none⟩) | 7 => u = Wk.val pv | 8 => u = .slice (some ⟨b, o, none⟩) i ca | 9 => u = .int .i64 (i' : Int) | 10 => u = .pointer (some ⟨b, o + i' * 11, none⟩) | 11 => u = Wk.val v | 12 => u = .bool false | 13 => u = .bool true | 14 => u = .bool true | 15 => u = .bool true | 16 => u = undef | 17 => u = undef | 18 => u = undef | 19 => u = undef | 20 => u = undef | 21 => u = undef | 22 => u = undef | 23 => u = undef | 24 => u = undef | 25 => u = undef | 26 => u = undef | 27 => u = undef | 28 => u = undef | 29 => u = undef | 30 => u = undef | 31 => u = undef | 32 => u = .bool true | _ => True) (HvW wr (fun ix wz u => True)) (by kernel_rfl) (by kernel_rfl) (by kernel_rfl) ?_ ?_ ?_
                · exact HvW.start _ _
                · refine ⟨?_, ?_, ?_, ?_, ?_, ?_, ?_, ?_, ?_, ?_, ?_, ?_, ?_, ?_, ?_, ?_, ?_, ?_, ?_, ?_, ?_, ?_, ?_, ?_, ?_, ?_, ?_, ?_, ?_, ?_, ?_, ?_, ?_, trivial⟩
                  · intro r a w' hf hg hW hr hd K hK
                    refine wpOp_of rfl rfl ?_
                    have e0 : a.tmps.getD 4 undef = .int .i64 (i' : Int) := hf.evalFree (by kernel_rfl)
                    go_simp
                    exact hK _ _ rfl (hW.upd 0 _ trivial)
                  · intro r a w' hf hg hW hr hd K hK
                    refine wpOp_of rfl rfl ?_
                    refine hf.depE hg hd 0 26 (by kernel_rfl) fun u0 e0 g0 h0 => ?_
                    replace g0 : u0 = .int .i64 (i' : Int) := g0
                    subst g0
                    have h00 : decide ((0 : Int) < (i' : Int)) = true := by rw [decide_eq_true_eq]; omega
                    have h01 : decide (0 < i') = true := by rw [decide_eq_true_eq]; omega
                    go_simp
                    exact hK _ _ rfl (hW.upd 1 _ trivial)
                  · intro r a w' hf hg hW hr hd K hK
                    refine wpOp_of rfl rfl ?_
                    refine hf.depE hg hd 1 27 (by kernel_rfl) fun u0 e0 g0 h0 => ?_
                    replace g0 : u0 = .bool true := g0
                    subst g0
                    go_simp
                    exact hK _ _ rfl (hW.upd 2 _ trivial)
                  · intro r a w' hf hg hW hr hd K hK
                    refine hf.depE hg hd 2 28 (by kernel_rfl) fun uG eG gG _ => ?_
                    replace gG : uG = .bool true := gG
                    subst gG
                    refine wpOp_run rfl rfl rfl rfl eG ?_
                    have e0 : a.tmps.getD 0 undef = .slice (some ⟨b, o, none⟩) i ca := hf.evalFree (by kernel_rfl)
                    go_simp
                    exact hK _ _ rfl (hW.upd 3 _ trivial)
                  · intro r a w' hf hg hW hr hd K hK
                    refine hf.depE hg hd 2 28 (by kernel_rfl) fun uG eG gG _ => ?_
                    replace gG : uG = .bool true := gG
                    subst gG
                    refine wpOp_run rfl rfl rfl rfl eG ?_
                    have e0 : a.tmps.getD 4 undef = .int .i64 (i' : Int) := hf.evalFree (by kernel_rfl)
                    go_simp
                    exact hK _ _ rfl (hW.upd 4 _ trivial)
                  · intro r a w' hf hg hW hr hd K hK
                    refine hf.depE hg hd 2 28 (by kernel_rfl) fun uG eG gG _ => ?_
                    replace gG : uG = .bool true := gG
                    subst gG
                    refine wpOp_run rfl rfl rfl rfl eG ?_
                    refine hf.depE hg hd 4 30 (by kernel_rfl) fun u0 e0 g0 h0 => ?_
                    replace g0 : u0 = .int .i64 (i' : Int) := g0
                    subst g0
                    go_simp
                    rw [show (i' : Int) - 1 = (j : Int) by omega, IntWalk.i64_in _ (by omega)]
                    exact hK _ _ rfl (hW.upd 5 _ trivial)
                  · intro r a w' hf hg hW hr hd K hK
                    refine hf.depE hg hd 2 28 (by kernel_rfl) fun uG eG gG _ => ?_
                    replace gG : uG = .bool true := gG
                    subst gG
                    refine wpOp_run rfl rfl rfl rfl eG ?_
                    refine hf.depE hg hd 3 29 (by kernel_rfl) fun u0 e0 g0 h0 => ?_
                    replace g0 : u0 = .slice (some ⟨b, o, none⟩) i ca := g0
                    subst g0
                    refine hf.depE hg hd 5 31 (by kernel_rfl) fun u1 e1 g1 h1 => ?_
                    replace g1 : u1 = .int .i64 (j : Int) := g1
                    subst g1
                    go_simp
                    exact hK _ _ rfl (hW.upd 6 _ trivial)
                  · intro r a w' hf hg hW hr hd K hK
                    refine hf.depE hg hd 2 28 (by kernel_rfl) fun uG eG gG _ => ?_
                    replace gG : uG = .bool true := gG
                    subst gG
                    refine wpOp_run rfl rfl rfl rfl eG ?_
                    refine hf.depE hg hd 6 32 (by kernel_rfl) fun u0 e0 g0 h0 => ?_
                    replace g0 : u0 = .pointer (some ⟨b, o + j * 11, none⟩) := g0
                    subst g0
                    have z0 := hW.kp.cell d0 id
                    have z1 := hW.kp.cell d1 id
                    have z2 := hW.kp.cell d2 id
                    have z3 := hW.kp.cell d3 id
                    have z4 := hW.kp.cell d4 id
                    have z5 := hW.kp.cell d5 id
                    have z6 := hW.kp.cell d6 id
                    have z7 := hW.kp.cell d7 id
                    have z8 := hW.kp.cell d8 id
                    have z9 := hW.kp.cell d9 id
                    have z10 := hW.kp.cell d10 id
                    go_simp
                    exact hK _ _ rfl (hW.upd 7 _ trivial)
                  · intro r a w' hf hg hW hr hd K hK
                    refine hf.depE hg hd 2 28 (by kernel_rfl) fun uG eG gG _ => ?_
                    replace gG : uG = .bool true := gG
                    subst gG
                    refine wpOp_run rfl rfl rfl rfl eG ?_
                    have e0 : a.tmps.getD 0 undef = .slice (some ⟨b, o, none⟩) i ca := hf.evalFree (by kernel_rfl)
                    go_simp
                    exact hK _ _ rfl (hW.upd 8 _ trivial)
                  · intro r a w' hf hg hW hr hd K hK
                    refine hf.depE hg hd 2 28 (by kernel_rfl) fun uG eG gG _ => ?_
                    replace gG : uG = .bool true := gG
                    subst gG
                    refine wpOp_run rfl rfl rfl rfl eG ?_
                    have e0 : a.tmps.getD 4 undef = .int .i64 (i' : Int) := hf.evalFree (by kernel_rfl)
                    go_simp
                    exact hK _ _ rfl (hW.upd 9 _ trivial)
                  · intro r a w' hf hg hW hr hd K hK
                    refine hf.depE hg hd 2 28 (by kernel_rfl) fun uG eG gG _ => ?_
                    replace gG : uG = .bool true := gG
                    subst gG
                    refine wpOp_run rfl rfl rfl rfl eG ?_
                    refine hf.depE hg hd 8 34 (by kernel_rfl) fun u0 e0 g0 h0 => ?_
                    replace g0 : u0 = .slice (some ⟨b, o, none⟩) i ca := g0
                    subst g0
                    refine hf.depE hg hd 9 35 (by kernel_rfl) fun u1 e1 g1 h1 => ?_
                    replace g1 : u1 = .int .i64 (i' : Int) := g1
                    subst g1
                    go_simp
                    exact hK _ _ rfl (hW.upd 10 _ trivial)
                  · intro r a w' hf hg hW hr hd K hK
                    refine hf.depE hg hd 2 28 (by kernel_rfl) fun uG eG gG _ => ?_
                    replace gG : uG = .bool true := gG
                    subst gG
                    refine wpOp_run rfl rfl rfl rfl eG ?_
                    refine hf.depE hg hd 10 36 (by kernel_rfl) fun u0 e0 g0 h0 => ?_
                    replace g0 : u0 = .pointer (some ⟨b, o + i' * 11, none⟩) := g0
                    subst g0
                    have z0 := hW.kp.cell c0 id
                    have z1 := hW.kp.cell c1 id
                    have z2 := hW.kp.cell c2 id
                    have z3 := hW.kp.cell c3 id
                    have z4 := hW.kp.cell c4 id
                    have z5 := hW.kp.cell c5 id
                    have z6 := hW.kp.cell c6 id
                    have z7 := hW.kp.cell c7 id
                    have z8 := hW.kp.cell c8 id
                    have z9 := hW.kp.cell c9 id
                    have z10 := hW.kp.cell c10 id
                    go_simp
                    exact hK _ _ rfl (hW.upd 11 _ trivial)
                  · intro r a w' hf hg hW hr hd K hK
                    refine hf.depE hg hd 2 28 (by kernel_rfl) fun uG eG gG _ => ?_
                    replace gG : uG = .bool true := gG
                    subst gG
                    refine wpOp_run rfl rfl rfl rfl eG ?_
                    refine hf.depE hg hd 7 33 (by kernel_rfl) fun u0 e0 g0 h0 => ?_
                    replace g0 : u0 = Wk.val pv := g0
                    subst g0
                    refine hf.depE hg hd 11 37 (by kernel_rfl) fun u1 e1 g1 h1 => ?_
                    replace g1 : u1 = Wk.val v := g1
                    subst g1
                    go_simp
                    refine (rbefore_any pv v w').mono ?_
                    rw [HCL.out]
                    rintro e w'' ⟨rfl, k'⟩
                    exact hK _ _ rfl ((hW.call FS.out k').upd 12 _ trivial)
                  · intro r a w' hf hg hW hr hd K hK
                    refine hf.depE hg hd 2 28 (by kernel_rfl) fun uG eG gG _ => ?_
                    replace gG : uG = .bool true := gG
                    subst gG
                    refine wpOp_run rfl rfl rfl rfl eG ?_
                    refine hf.depE hg hd 12 38 (by kernel_rfl) fun u0 e0 g0 h0 => ?_
                    replace g0 : u0 = .bool false := g0
                    subst g0
                    go_simp
                    exact hK _ _ rfl (hW.upd 13 _ trivial)
                  · intro r a w' hf hg hW hr hd K hK
                    refine wpOp_of rfl rfl ?_
                    refine hf.depE hg hd 2 28 (by kernel_rfl) fun u0 e0 g0 h0 => ?_
                    replace g0 : u0 = .bool true := g0
                    subst g0
                    have e0' := get_of_getD e0
                    refine hf.depE hg hd 13 39 (by kernel_rfl) fun u1 e1 g1 h1 => ?_
                    replace g1 : u1 = .bool true := g1
                    subst g1
                    have e1' := get_of_getD e1
                    go_simp
                    exact hK _ _ rfl (hW.upd 14 _ trivial)
                  · intro r a w' hf hg hW hr hd K hK
                    refine wpOp_of rfl rfl ?_
                    refine hf.depE hg hd 14 40 (by kernel_rfl) fun u0 e0 g0 h0 => ?_
                    replace g0 : u0 = .bool true := g0
                    subst g0
                    go_simp
                    exact hK _ _ rfl (hW.upd 15 _ trivial)
                  · intro r a w' hf hg hW hr hd K hK
                    refine hf.depE hg hd 15 41 (by kernel_rfl) fun uG eG gG _ => ?_
                    replace gG : uG = .bool true := gG
                    subst gG
                    refine wpOp_skip rfl rfl rfl rfl eG (by decide) ?_
                    exact hK _ _ rfl (hW.upd 16 _ trivial)
                  · intro r a w' hf hg hW hr hd K hK
                    refine hf.depE hg hd 15 41 (by kernel_rfl) fun uG eG gG _ => ?_
                    replace gG : uG = .bool true := gG
                    subst gG
                    refine wpOp_skip rfl rfl rfl rfl eG (by decide) ?_
                    exact hK _ _ rfl (hW.upd 17 _ trivial)
                  · intro r a w' hf hg hW hr hd K hK
                    refine hf.depE hg hd 15 41 (by kernel_rfl) fun uG eG gG _ => ?_
                    replace gG : uG = .bool true := gG
                    subst gG
                    refine wpOp_skip rfl rfl rfl rfl eG (by decide) ?_
                    exact hK _ _ rfl (hW.upd 18 _ trivial)
                  · intro r a w' hf hg hW hr hd K hK
                    refine hf.depE hg hd 15 41 (by kernel_rfl) fun uG eG gG _ => ?_
                    replace gG : uG = .bool true := gG
                    subst gG
                    refine wpOp_skip rfl rfl rfl rfl eG (by decide) ?_
                    exact hK _ _ rfl (hW.upd 19 _ trivial)
                  · intro r a w' hf hg hW hr hd K hK
                    refine hf.depE hg hd 15 41 (by kernel_rfl) fun uG eG gG _ => ?_
                    replace gG : uG = .bool true := gG
                    subst gG
                    refine wpOp_skip rfl rfl rfl rfl eG (by decide) ?_
                    exact hK _ _ rfl (hW.upd 20 _ trivial)
                  · intro r a w' hf hg hW hr hd K hK
                    refine hf.depE hg hd 15 41 (by kernel_rfl) fun uG eG gG _ => ?_
                    replace gG : uG = .bool true := gG
                    subst gG
                    refine wpOp_skip rfl rfl rfl rfl eG (by decide) ?_
                    exact hK _ _ rfl (hW.upd 21 _ trivial)
                  · intro r a w' hf hg hW hr hd K hK
                    refine hf.depE hg hd 15 41 (by kernel_rfl) fun uG eG gG _ => ?_
                    replace gG : uG = .bool true := gG
                    subst gG
                    refine wpOp_skip rfl rfl rfl rfl eG (by decide) ?_
                    exact hK _ _ rfl (hW.upd 22 _ trivial)
                  · intro r a w' hf hg hW hr hd K hK
                    refine hf.depE hg hd 15 41 (by kernel_rfl) fun uG eG gG _ => ?_
                    replace gG : uG = .bool true := gG
                    subst gG
                    refine wpOp_skip rfl rfl rfl rfl eG (by decide) ?_
                    exact hK _ _ rfl (hW.upd 23 _ trivial)
                  · intro r a w' hf hg hW hr hd K hK
                    refine hf.depE hg hd 15 41 (by kernel_rfl) fun uG eG gG _ => ?_
                    replace gG : uG = .bool true := gG
                    subst gG
                    refine wpOp_skip rfl rfl rfl rfl eG (by decide) ?_
                    exact hK _ _ rfl (hW.upd 24 _ trivial)
                  · intro r a w' hf hg hW hr hd K hK
                    refine hf.depE hg hd 15 41 (by kernel_rfl) fun uG eG gG _ => ?_
                    replace gG : uG = .bool true := gG
                    subst gG
                    refine wpOp_skip rfl rfl rfl rfl eG (by decide) ?_
                    exact hK _ _ rfl (hW.upd 25 _ trivial)
                  · intro r a w' hf hg hW hr hd K hK
                    refine hf.depE hg hd 15 41 (by kernel_rfl) fun uG eG gG _ => ?_
                    replace gG : uG = .bool true := gG
                    subst gG
                    refine wpOp_skip rfl rfl rfl rfl eG (by decide) ?_
                    exact hK _ _ rfl (hW.upd 26 _ trivial)
                  · intro r a w' hf hg hW hr hd K hK
                    refine hf.depE hg hd 15 41 (by kernel_rfl) fun uG eG gG _ => ?_
                    replace gG : uG = .bool true := gG
                    subst gG
                    refine wpOp_skip rfl rfl rfl rfl eG (by decide) ?_
                    exact hK _ _ rfl (hW.upd 27 _ trivial)
                  · intro r a w' hf hg hW hr hd K hK
                    refine hf.depE hg hd 15 41 (by kernel_rfl) fun uG eG gG _ => ?_
                    replace gG : uG = .bool true := gG
                    subst gG
                    refine wpOp_skip rfl rfl rfl rfl eG (by decide) ?_
                    exact hK _ _ rfl (hW.upd 28 _ trivial)
                  · intro r a w' hf hg hW hr hd K hK
                    refine hf.depE hg hd 15 41 (by kernel_rfl) fun uG eG gG _ => ?_
                    replace gG : uG = .bool true := gG
                    subst gG
                    refine wpOp_skip rfl rfl rfl rfl eG (by decide) ?_
                    exact hK _ _ rfl (hW.upd 29 _ trivial)
                  · intro r a w' hf hg hW hr hd K hK
                    refine hf.depE hg hd 15 41 (by kernel_rfl) fun uG eG gG _ => ?_
                    replace gG : uG = .bool true := gG
                    subst gG
                    refine wpOp_skip rfl rfl rfl rfl eG (by decide) ?_
                    exact hK _ _ rfl (hW.upd 30 _ trivial)
                  · intro r a w' hf hg hW hr hd K hK
                    refine hf.depE hg hd 15 41 (by kernel_rfl) fun uG eG gG _ => ?_
                    replace gG : uG = .bool true := gG
                    subst gG
                    refine wpOp_skip rfl rfl rfl rfl eG (by decide) ?_
                    exact hK _ _ rfl (hW.upd 31 _ trivial)
                  · intro r a w' hf hg hW hr hd K hK
                    refine wpOp_of rfl rfl ?_
                    refine hf.depE hg hd 15 41 (by kernel_rfl) fun u0 e0 g0 h0 => ?_
                    replace g0 : u0 = .bool true := g0
                    subst g0
                    have e0' := get_of_getD e0
                    refine hf.depE hg hd 31 57 (by kernel_rfl) fun u1 e1 g1 h1 => ?_
                    replace g1 : u1 = undef := g1
                    subst g1
                    have e1' := get_of_getD e1
                    go_simp
                    exact hK _ _ rfl (hW.upd 32 _ trivial)
                intro r' w6 hg hW hr'
                have hkN := hW.kp
                obtain ⟨q32, hq32⟩ : ∃ u, r' 32 = some u := Option.ne_none_iff_exists'.1 (hr' 32 (by decide))
                have hk32 := hg 32 q32 hq32
                replace hk32 : q32 = .bool true := hk32
                subst hk32
                simp only [List.length_cons, List.length_nil, Nat.reduceAdd, List.range_succ, List.range_zero, List.nil_append, List.cons_append, List.map_cons, List.map_nil, putAll, Act.put, List.setIfInBounds_toArray, List.set_cons_succ, List.set_cons_zero, hq32, Option.getD_some]
                clear hg hW hr' FS hq32
                go_wp2_with fail
                go_ret
                exact ⟨ret_i64 (by rw [HAL.out, if_neg (by rw [ordOk_stop HV.out HSP2.out]; simp)]), hkw.tr hkN⟩
              · have HCL := Lib.hid hlt
                have HSP2 : Hid (stepOk (l.take i') v = (true && decide (v.num = (m : Int) + 1))) := Lib.hid (HSP1.out.trans (by rw [hlt]; try rfl))
                clear hlt
                have FS : Stab (fun ix wz u => True) := fun ix u wz wz' kz h => trivial
                replace FS := Lib.hid FS
                refine wp_region_each (fun ix u => match ix with | 0 => u = .int .i64 (i' : Int) | 1 => u = .bool true | 2 => u = .bool true | 3 => u = .slice (some ⟨b, o, none⟩) i ca | 4 => u = .int .i64 (i' : Int) | 5 => u = .int .i64 (j : Int) | 6 => u = .pointer (some ⟨b, o + j * 11, none⟩) | 7 => u = Wk.val pv | 8 => u = .slice (some ⟨b, o, none⟩) i ca | 9 => u = .int .i64 (i' : Int) | 10 => u = .pointer (some ⟨b, o + i' * 11, none⟩) | 11 => u = Wk.val v | 12 => u = .bool true | 13 => u = .bool false | 14 => u = .bool false | 15 => u = .bool false | 16 => u = .slice (some ⟨b, o, none⟩) i ca | 17 => u = .int .i64 (i' : Int) | 18 => u = .pointer (some ⟨b, o + i' * 11, none⟩) | 19 => u = .pointer (some ⟨b, o + i' * 11 + 1, none⟩) | 20 => u = .int .i64 v.num | 21 => u = .slice (some ⟨b, o, none⟩) i ca | 22 => u = .int .i64 (i' : Int) | 23 => u = .slice (some ⟨b, o, none⟩) i' ca | 24 => u = .slice (some ⟨b, o, none⟩) i ca | 25 => u = .int .i64 (i' : Int) | 26 => u = .pointer (some ⟨b, o + i' * 11, none⟩) | 27 => u = .pointer (some ⟨b, o + i' * 11, none⟩) | 28 => u = .int .i64 v.wk | 29 => u = .int .i64 (m : Int) | 30 => u = .int .i64 ((m : Int) + 1) | 31 => u = .bool (v.num != (m : Int) + 1) | 32 => u = .bool (v.num != (m : Int) + 1) | _ => True) (HvW wr (fun ix wz u => True)) (by kernel_rfl) (by kernel_rfl) (by kernel_rfl) ?_ ?_ ?_
                · exact HvW.start _ _
                · refine ⟨?_, ?_, ?_, ?_, ?_, ?_, ?_, ?_, ?_, ?_, ?_, ?_, ?_, ?_, ?_, ?_, ?_, ?_, ?_, ?_, ?_, ?_, ?_, ?_, ?_, ?_, ?_, ?_, ?_, ?_, ?_, ?_, ?_, trivial⟩
                  · intro r a w' hf hg hW hr hd K hK
                    refine wpOp_of rfl rfl ?_
                    have e0 : a.tmps.getD 4 undef = .int .i64 (i' : Int) := hf.evalFree (by kernel_rfl)
                    go_simp
                    exact hK _ _ rfl (hW.upd 0 _ trivial)
                  · intro r a w' hf hg hW hr hd K hK
                    refine wpOp_of rfl rfl ?_
                    refine hf.depE hg hd 0 26 (by kernel_rfl) fun u0 e0 g0 h0 => ?_
                    replace g0 : u0 = .int .i64 (i' : Int) := g0
                    subst g0
                    have h00 : decide ((0 : Int) < (i' : Int)) = true := by rw [decide_eq_true_eq]; omega
                    have h01 : decide (0 < i') = true := by rw [decide_eq_true_eq]; omega
                    go_simp
                    exact hK _ _ rfl (hW.upd 1 _ trivial)
                  · intro r a w' hf hg hW hr hd K hK
                    refine wpOp_of rfl rfl ?_
                    refine hf.depE hg hd 1 27 (by kernel_rfl) fun u0 e0 g0 h0 => ?_
                    replace g0 : u0 = .bool true := g0
                    subst g0
                    go_simp
                    exact hK _ _ rfl (hW.upd 2 _ trivial)
                  · intro r a w' hf hg hW hr hd K hK
                    refine hf.depE hg hd 2 28 (by kernel_rfl) fun uG eG gG _ => ?_
                    replace gG : uG = .bool true := gG
                    subst gG
                    refine wpOp_run rfl rfl rfl rfl eG ?_
                    have e0 : a.tmps.getD 0 undef = .slice (some ⟨b, o, none⟩) i ca := hf.evalFree (by kernel_rfl)
                    go_simp
                    exact hK _ _ rfl (hW.upd 3 _ trivial)
                  · intro r a w' hf hg hW hr hd K hK
                    refine hf.depE hg hd 2 28 (by kernel_rfl) fun uG eG gG _ => ?_
                    replace gG : uG = .bool true := gG
                    subst gG
                    refine wpOp_run rfl rfl rfl rfl eG ?_
                    have e0 : a.tmps.getD 4 undef = .int .i64 (i' : Int) := hf.evalFree (by kernel_rfl)
                    go_simp
                    exact hK _ _ rfl (hW.upd 4 _ trivial)
                  · intro r a w' hf hg hW hr hd K hK
                    refine hf.depE hg hd 2 28 (by kernel_rfl) fun uG eG gG _ => ?_
                    replace gG : uG = .bool true := gG
                    subst gG
                    refine wpOp_run rfl rfl rfl rfl eG ?_
                    refine hf.depE hg hd 4 30 (by kernel_rfl) fun u0 e0 g0 h0 => ?_
                    replace g0 : u0 = .int .i64 (i' : Int) := g0
                    subst g0
                    go_simp
                    rw [show (i' : Int) - 1 = (j : Int) by omega, IntWalk.i64_in _ (by omega)]
                    exact hK _ _ rfl (hW.upd 5 _ trivial)
                  · intro r a w' hf hg hW hr hd K hK
                    refine hf.depE hg hd 2 28 (by kernel_rfl) fun uG eG gG _ => ?_
                    replace gG : uG = .bool true := gG
                    subst gG
                    refine wpOp_run rfl rfl rfl rfl eG ?_
                    refine hf.depE hg hd 3 29 (by kernel_rfl) fun u0 e0 g0 h0 => ?_
                    replace g0 : u0 = .slice (some ⟨b, o, none⟩) i ca := g0
                    subst g0
                    refine hf.depE hg hd 5 31 (by kernel_rfl) fun u1 e1 g1 h1 => ?_
                    replace g1 : u1 = .int .i64 (j : Int) := g1
                    subst g1
                    go_simp
                    exact hK _ _ rfl (hW.upd 6 _ trivial)
                  · intro r a w' hf hg hW hr hd K hK
                    refine hf.depE hg hd 2 28 (by kernel_rfl) fun uG eG gG _ => ?_
                    replace gG : uG = .bool true := gG
                    subst gG
                    refine wpOp_run rfl rfl rfl rfl eG ?_
                    refine hf.depE hg hd 6 32 (by kernel_rfl) fun u0 e0 g0 h0 => ?_
                    replace g0 : u0 = .pointer (some ⟨b, o + j * 11, none⟩) := g0
                    subst g0
                    have z0 := hW.kp.cell d0 id
                    have z1 := hW.kp.cell d1 id
                    have z2 := hW.kp.cell d2 id
                    have z3 := hW.kp.cell d3 id
                    have z4 := hW.kp.cell d4 id
                    have z5 := hW.kp.cell d5 id
                    have z6 := hW.kp.cell d6 id
                    have z7 := hW.kp.cell d7 id
                    have z8 := hW.kp.cell d8 id
                    have z9 := hW.kp.cell d9 id
                    have z10 := hW.kp.cell d10 id
                    go_simp
                    exact hK _ _ rfl (hW.upd 7 _ trivial)
                  · intro r a w' hf hg hW hr hd K hK
                    refine hf.depE hg hd 2 28 (by kernel_rfl) fun uG eG gG _ => ?_
                    replace gG : uG = .bool true := gG
                    subst gG
                    refine wpOp_run rfl rfl rfl rfl eG ?_
                    have e0 : a.tmps.getD 0 undef = .slice (some ⟨b, o, none⟩) i ca := hf.evalFree (by kernel_rfl)
                    go_simp
                    exact hK _ _ rfl (hW.upd 8 _ trivial)
                  · intro r a w' hf hg hW hr hd K hK
                    refine hf.depE hg hd 2 28 (by kernel_rfl) fun uG eG gG _ => ?_
                    replace gG : uG = .bool true := gG
                    subst gG
                    refine wpOp_run rfl rfl rfl rfl eG ?_
                    have e0 : a.tmps.getD 4 undef = .int .i64 (i' : Int) := hf.evalFree (by kernel_rfl)
                    go_simp
                    exact hK _ _ rfl (hW.upd 9 _ trivial)
                  · intro r a w' hf hg hW hr hd K hK
                    refine hf.depE hg hd 2 28 (by kernel_rfl) fun uG eG gG _ => ?_
                    replace gG : uG = .bool true := gG
                    subst gG
                    refine wpOp_run rfl rfl rfl rfl eG ?_
                    refine hf.depE hg hd 8 34 (by kernel_rfl) fun u0 e0 g0 h0 => ?_
                    replace g0 : u0 = .slice (some ⟨b, o, none⟩) i ca := g0
                    subst g0
                    refine hf.depE hg hd 9 35 (by kernel_rfl) fun u1 e1 g1 h1 => ?_
                    replace g1 : u1 = .int .i64 (i' : Int) := g1
                    subst g1
                    go_simp
                    exact hK _ _ rfl (hW.upd 10 _ trivial)
                  · intro r a w' hf hg hW hr hd K hK
                    refine hf.depE hg hd 2 28 (by kernel_rfl) fun uG eG gG _ => ?_
                    replace gG : uG = .bool true := gG
                    subst gG
                    refine wpOp_run rfl rfl rfl rfl eG ?_
                    refine hf.depE hg hd 10 36 (by kernel_rfl) fun u0 e0 g0 h0 => ?_
                    replace g0 : u0 = .pointer (some ⟨b, o + i' * 11, none⟩) := g0
                    subst g0
                    have z0 := hW.kp.cell c0 id
                    have z1 := hW.kp.cell c1 id
                    have z2 := hW.kp.cell c2 id
                    have z3 := hW.kp.cell c3 id
                    have z4 := hW.kp.cell c4 id
                    have z5 := hW.kp.cell c5 id
                    have z6 := hW.kp.cell c6 id
                    have z7 := hW.kp.cell c7 id
                    have z8 := hW.kp.cell c8 id
                    have z9 := hW.kp.cell c9 id
                    have z10 := hW.kp.cell c10 id
                    go_simp
                    exact hK _ _ rfl (hW.upd 11 _ trivial)
                  · intro r a w' hf hg hW hr hd K hK
                    refine hf.depE hg hd 2 28 (by kernel_rfl) fun uG eG gG _ => ?_
                    replace gG : uG = .bool true := gG
                    subst gG
                    refine wpOp_run rfl rfl rfl rfl eG ?_
                    refine hf.depE hg hd 7 33 (by kernel_rfl) fun u0 e0 g0 h0 => ?_
                    replace g0 : u0 = Wk.val pv := g0
                    subst g0
                    refine hf.depE hg hd 11 37 (by kernel_rfl) fun u1 e1 g1 h1 => ?_
                    replace g1 : u1 = Wk.val v := g1
                    subst g1
                    go_simp
                    refine (rbefore_any pv v w').mono ?_
                    rw [HCL.out]
                    rintro e w'' ⟨rfl, k'⟩
                    exact hK _ _ rfl ((hW.call FS.out k').upd 12 _ trivial)
                  · intro r a w' hf hg hW hr hd K hK
                    refine hf.depE hg hd 2 28 (by kernel_rfl) fun uG eG gG _ => ?_
                    replace gG : uG = .bool true := gG
                    subst gG
                    refine wpOp_run rfl rfl rfl rfl eG ?_
                    refine hf.depE hg hd 12 38 (by kernel_rfl) fun u0 e0 g0 h0 => ?_
                    replace g0 : u0 = .bool true := g0
                    subst g0
                    go_simp
                    exact hK _ _ rfl (hW.upd 13 _ trivial)
                  · intro r a w' hf hg hW hr hd K hK
                    refine wpOp_of rfl rfl ?_
                    refine hf.depE hg hd 2 28 (by kernel_rfl) fun u0 e0 g0 h0 => ?_
                    replace g0 : u0 = .bool true := g0
                    subst g0
                    have e0' := get_of_getD e0
                    refine hf.depE hg hd 13 39 (by kernel_rfl) fun u1 e1 g1 h1 => ?_
                    replace g1 : u1 = .bool false := g1
                    subst g1
                    have e1' := get_of_getD e1
                    go_simp
                    exact hK _ _ rfl (hW.upd 14 _ trivial)
                  · intro r a w' hf hg hW hr hd K hK
                    refine wpOp_of rfl rfl ?_
                    refine hf.depE hg hd 14 40 (by kernel_rfl) fun u0 e0 g0 h0 => ?_
                    replace g0 : u0 = .bool false := g0
                    subst g0
                    go_simp
                    exact hK _ _ rfl (hW.upd 15 _ trivial)
                  · intro r a w' hf hg hW hr hd K hK
                    refine hf.depE hg hd 15 41 (by kernel_rfl) fun uG eG gG _ => ?_
                    replace gG : uG = .bool false := gG
                    subst gG
                    refine wpOp_run rfl rfl rfl rfl eG ?_
                    have e0 : a.tmps.getD 0 undef = .slice (some ⟨b, o, none⟩) i ca := hf.evalFree (by kernel_rfl)
                    go_simp
                    exact hK _ _ rfl (hW.upd 16 _ trivial)
                  · intro r a w' hf hg hW hr hd K hK
                    refine hf.depE hg hd 15 41 (by kernel_rfl) fun uG eG gG _ => ?_
                    replace gG : uG = .bool false := gG
                    subst gG
                    refine wpOp_run rfl rfl rfl rfl eG ?_
                    have e0 : a.tmps.getD 4 undef = .int .i64 (i' : Int) := hf.evalFree (by kernel_rfl)
                    go_simp
                    exact hK _ _ rfl (hW.upd 17 _ trivial)
                  · intro r a w' hf hg hW hr hd K hK
                    refine hf.depE hg hd 15 41 (by kernel_rfl) fun uG eG gG _ => ?_
                    replace gG : uG = .bool false := gG
                    subst gG
                    refine wpOp_run rfl rfl rfl rfl eG ?_
                    refine hf.depE hg hd 16 42 (by kernel_rfl) fun u0 e0 g0 h0 => ?_
                    replace g0 : u0 = .slice (some ⟨b, o, none⟩) i ca := g0
                    subst g0
                    refine hf.depE hg hd 17 43 (by kernel_rfl) fun u1 e1 g1 h1 => ?_
                    replace g1 : u1 = .int .i64 (i' : Int) := g1
                    subst g1
                    go_simp
                    exact hK _ _ rfl (hW.upd 18 _ trivial)
                  · intro r a w' hf hg hW hr hd K hK
                    refine hf.depE hg hd 15 41 (by kernel_rfl) fun uG eG gG _ => ?_
                    replace gG : uG = .bool false := gG
                    subst gG
                    refine wpOp_run rfl rfl rfl rfl eG ?_
                    refine hf.depE hg hd 18 44 (by kernel_rfl) fun u0 e0 g0 h0 => ?_
                    replace g0 : u0 = .pointer (some ⟨b, o + i' * 11, none⟩) := g0
                    subst g0
                    go_simp
                    exact hK _ _ rfl (hW.upd 19 _ trivial)
                  · intro r a w' hf hg hW hr hd K hK
                    refine hf.depE hg hd 15 41 (by kernel_rfl) fun uG eG gG _ => ?_
                    replace gG : uG = .bool false := gG
                    subst gG
                    refine wpOp_run rfl rfl rfl rfl eG ?_
                    refine hf.depE hg hd 19 45 (by kernel_rfl) fun u0 e0 g0 h0 => ?_
                    replace g0 : u0 = .pointer (some ⟨b, o + i' * 11 + 1, none⟩) := g0
                    subst g0
                    have z0 := hW.kp.cell c1 id
                    go_simp
                    exact hK _ _ rfl (hW.upd 20 _ trivial)
                  · intro r a w' hf hg hW hr hd K hK
                    refine hf.depE hg hd 15 41 (by kernel_rfl) fun uG eG gG _ => ?_
                    replace gG : uG = .bool false := gG
                    subst gG
                    refine wpOp_run rfl rfl rfl rfl eG ?_
                    have e0 : a.tmps.getD 0 undef = .slice (some ⟨b, o, none⟩) i ca := hf.evalFree (by kernel_rfl)
                    go_simp
                    exact hK _ _ rfl (hW.upd 21 _ trivial)
                  · intro r a w' hf hg hW hr hd K hK
                    refine hf.depE hg hd 15 41 (by kernel_rfl) fun uG eG gG _ => ?_
                    replace gG : uG = .bool false := gG
                    subst gG
                    refine wpOp_run rfl rfl rfl rfl eG ?_
                    have e0 : a.tmps.getD 4 undef = .int .i64 (i' : Int) := hf.evalFree (by kernel_rfl)
                    go_simp
                    exact hK _ _ rfl (hW.upd 22 _ trivial)
                  · intro r a w' hf hg hW hr hd K hK
                    refine hf.depE hg hd 15 41 (by kernel_rfl) fun uG eG gG _ => ?_
                    replace gG : uG = .bool false := gG
                    subst gG
                    refine wpOp_run rfl rfl rfl rfl eG ?_
                    refine hf.depE hg hd 21 47 (by kernel_rfl) fun u0 e0 g0 h0 => ?_
                    replace g0 : u0 = .slice (some ⟨b, o, none⟩) i ca := g0
                    subst g0
                    refine hf.depE hg hd 22 48 (by kernel_rfl) fun u1 e1 g1 h1 => ?_
                    replace g1 : u1 = .int .i64 (i' : Int) := g1
                    subst g1
                    go_simp
                    exact hK _ _ rfl (hW.upd 23 _ trivial)
                  · intro r a w' hf hg hW hr hd K hK
                    refine hf.depE hg hd 15 41 (by kernel_rfl) fun uG eG gG _ => ?_
                    replace gG : uG = .bool false := gG
                    subst gG
                    refine wpOp_run rfl rfl rfl rfl eG ?_
                    have e0 : a.tmps.getD 0 undef = .slice (some ⟨b, o, none⟩) i ca := hf.evalFree (by kernel_rfl)
                    go_simp
                    exact hK _ _ rfl (hW.upd 24 _ trivial)
                  · intro r a w' hf hg hW hr hd K hK
                    refine hf.depE hg hd 15 41 (by kernel_rfl) fun uG eG gG _ => ?_
                    replace gG : uG = .bool false := gG
                    subst gG
                    refine wpOp_run rfl rfl rfl rfl eG ?_
                    have e0 : a.tmps.getD 4 undef = .int .i64 (i' : Int) := hf.evalFree (by kernel_rfl)
                    go_simp
                    exact hK _ _ rfl (hW.upd 25 _ trivial)
                  · intro r a w' hf hg hW hr hd K hK
                    refine hf.depE hg hd 15 41 (by kernel_rfl) fun uG eG gG _ => ?_
                    replace gG : uG = .bool false := gG
                    subst gG
                    refine wpOp_run rfl rfl rfl rfl eG ?_
                    refine hf.depE hg hd 24 50 (by kernel_rfl) fun u0 e0 g0 h0 => ?_
                    replace g0 : u0 = .slice (some ⟨b, o, none⟩) i ca := g0
                    subst g0
                    refine hf.depE hg hd 25 51 (by kernel_rfl) fun u1 e1 g1 h1 => ?_
                    replace g1 : u1 = .int .i64 (i' : Int) := g1
                    subst g1
                    go_simp
                    exact hK _ _ rfl (hW.upd 26 _ trivial)
                  · intro r a w' hf hg hW hr hd K hK
                    refine hf.depE hg hd 15 41 (by kernel_rfl) fun uG eG gG _ => ?_
                    replace gG : uG = .bool false := gG
                    subst gG
                    refine wpOp_run rfl rfl rfl rfl eG ?_
                    refine hf.depE hg hd 26 52 (by kernel_rfl) fun u0 e0 g0 h0 => ?_
                    replace g0 : u0 = .pointer (some ⟨b, o + i' * 11, none⟩) := g0
                    subst g0
                    go_simp
                    exact hK _ _ rfl (hW.upd 27 _ trivial)
                  · intro r a w' hf hg hW hr hd K hK
                    refine hf.depE hg hd 15 41 (by kernel_rfl) fun uG eG gG _ => ?_
                    replace gG : uG = .bool false := gG
                    subst gG
                    refine wpOp_run rfl rfl rfl rfl eG ?_
                    refine hf.depE hg hd 27 53 (by kernel_rfl) fun u0 e0 g0 h0 => ?_
                    replace g0 : u0 = .pointer (some ⟨b, o + i' * 11, none⟩) := g0
                    subst g0
                    have z0 := hW.kp.cell c0 id
                    go_simp
                    exact hK _ _ rfl (hW.upd 28 _ trivial)
                  · intro r a w' hf hg hW hr hd K hK
                    refine hf.depE hg hd 15 41 (by kernel_rfl) fun uG eG gG _ => ?_
                    replace gG : uG = .bool false := gG
                    subst gG
                    refine wpOp_run rfl rfl rfl rfl eG ?_
                    refine hf.depE hg hd 23 49 (by kernel_rfl) fun u0 e0 g0 h0 => ?_
                    replace g0 : u0 = .slice (some ⟨b, o, none⟩) i' ca := g0
                    subst g0
                    refine hf.depE hg hd 28 54 (by kernel_rfl) fun u1 e1 g1 h1 => ?_
                    replace g1 : u1 = .int .i64 v.wk := g1
                    subst g1
                    go_simp
                    refine (HTK.out w' hW.kp).mono ?_
                    rintro e w'' ⟨rfl, rfl⟩
                    exact hK _ _ rfl (hW.upd 29 _ trivial)
                  · intro r a w' hf hg hW hr hd K hK
                    refine hf.depE hg hd 15 41 (by kernel_rfl) fun uG eG gG _ => ?_
                    replace gG : uG = .bool false := gG
                    subst gG
                    refine wpOp_run rfl rfl rfl rfl eG ?_
                    refine hf.depE hg hd 29 55 (by kernel_rfl) fun u0 e0 g0 h0 => ?_
                    replace g0 : u0 = .int .i64 (m : Int) := g0
                    subst g0
                    go_simp
                    rw [IntWalk.i64_in _ (by omega)]
                    exact hK _ _ rfl (hW.upd 30 _ trivial)
                  · intro r a w' hf hg hW hr hd K hK
                    refine hf.depE hg hd 15 41 (by kernel_rfl) fun uG eG gG _ => ?_
                    replace gG : uG = .bool false := gG
                    subst gG
                    refine wpOp_run rfl rfl rfl rfl eG ?_
                    refine hf.depE hg hd 20 46 (by kernel_rfl) fun u0 e0 g0 h0 => ?_
                    replace g0 : u0 = .int .i64 v.num := g0
                    subst g0
                    refine hf.depE hg hd 30 56 (by kernel_rfl) fun u1 e1 g1 h1 => ?_
                    replace g1 : u1 = .int .i64 ((m : Int) + 1) := g1
                    subst g1
                    go_simp
                    exact hK _ _ rfl (hW.upd 31 _ trivial)
                  · intro r a w' hf hg hW hr hd K hK
                    refine wpOp_of rfl rfl ?_
                    refine hf.depE hg hd 15 41 (by kernel_rfl) fun u0 e0 g0 h0 => ?_
                    replace g0 : u0 = .bool false := g0
                    subst g0
                    have e0' := get_of_getD e0
                    refine hf.depE hg hd 31 57 (by kernel_rfl) fun u1 e1 g1 h1 => ?_
                    replace g1 : u1 = .bool (v.num != (m : Int) + 1) := g1
                    subst g1
                    have e1' := get_of_getD e1
                    go_simp
                    exact hK _ _ rfl (hW.upd 32 _ trivial)
                intro r' w6 hg hW hr'
                have hkN := hW.kp
                obtain ⟨q32, hq32⟩ : ∃ u, r' 32 = some u := Option.ne_none_iff_exists'.1 (hr' 32 (by decide))
                have hk32 := hg 32 q32 hq32
                replace hk32 : q32 = .bool (v.num != (m : Int) + 1) := hk32
                subst hk32
                simp only [List.length_cons, List.length_nil, Nat.reduceAdd, List.range_succ, List.range_zero, List.nil_append, List.cons_append, List.map_cons, List.map_nil, putAll, Act.put, List.setIfInBounds_toArray, List.set_cons_succ, List.set_cons_zero, hq32, Option.getD_some]
                clear hg hW hr' FS hq32
                by_cases hnm : v.num = (m : Int) + 1
                · have hne : (v.num != (m : Int) + 1) = false := by rw [hnm]; simp
                  have HSP3 : Hid (stepOk (l.take i') v = true) := Lib.hid (HSP2.out.trans (by rw [decide_eq_true hnm]; try rfl))
                  clear hnm
                  go_wp2_with fail
                  go_roundw
                  case rel => exact ⟨i' + 1, by omega, by go_num, fun q u hq hu => by
                      by_cases e : q = i'
                      · subst e
                        rw [HV.out] at hu
                        cases hu
                        exact HSP3.out
                      · exact HST.out q u (by omega) hu, hkq.tr hkN⟩
                  case measure => simp [intOf]; omega
                · have hne : (v.num != (m : Int) + 1) = true := by simp [hnm]
                  have HSP3 : Hid (stepOk (l.take i') v = false) := Lib.hid (HSP2.out.trans (by rw [decide_eq_false hnm, Bool.and_false]))
                  clear hnm
                  go_wp2_with fail
                  go_ret
                  exact ⟨ret_i64 (by rw [HAL.out, if_neg (by rw [ordOk_stop HV.out HSP3.out]; simp)]), hkw.tr hkN⟩
          · obtain rfl : i' = i := by omega
            have HO := Lib.hid (show ordOk [] l = true from ordOk_all fun j v hv => HST.out j v (by have := (List.getElem?_eq_some_iff.1 hv).1; omega) hv)
            go_wp2_with fail
            go_ret
            exact ⟨ret_i64 (by rw [HAL.out, if_pos HO.out]), hkw⟩
  · have HC := Lib.hid (chk_long (l := l) (by omega))
    go_enter Try.func12, Try.ntmps12
    go_wp2_with fail
    go_ret
    exact ⟨ret_i64 HC.out.symm, Kp.refl _ _⟩
end Go.Proofs.Ytjbpdimepckmfaa
