/- Chapter 24: the document's Check. Printed by gen_rfa.py. -/
import Derived.Test.YtakgcnjpmpcekaaXFlBM
import Derived.Test.YtakgcnjpmpcekaaXLibHmM
namespace Go.Proofs.Ytakgcnjpmpcekaa
open Go.RowKit Go.Kq

theorem mir_mir {a b : Int} (ha : 1 ≤ a ∧ a ≤ 4) (hb : 1 ≤ b ∧ b ≤ 4) : decide (a = mirK b) = decide (b = mirK a) := by
  unfold mirK
  obtain rfl | rfl | rfl | rfl : a = 1 ∨ a = 2 ∨ a = 3 ∨ a = 4 := by omega
  all_goals
    obtain rfl | rfl | rfl | rfl : b = 1 ∨ b = 2 ∨ b = 3 ∨ b = 4 := by omega
    all_goals rfl
set_option maxHeartbeats 8000000 in
set_option maxRecDepth 100000 in
theorem rCheck_any (A : Option Addr) (n ca : Nat) (l : List Fc) (w : World) (hR : RdF w A n l) :
    Calls Try.prog 16 #[.slice A n ca] w fun e w' => e = .returned (.int .i64 (chkF l)) ∧ Kp No w w' := by
  have HR := Lib.hid hR
  have HL := Lib.hid hR.1
  have HE := Lib.hid (show chkF l = if 12 < n then 3 else if l.any badF then 2 else if (List.range n).all (formB l) then 0 else 6 by rw [← hR.1]; rfl)
  clear hR
  by_cases h1 : 12 < n
  · rw [HE.out, if_pos h1]
    go_enter Try.func16, Try.ntmps16
    go_wp2_with fail
    go_ret
    exact ⟨rfl, Kp.refl _ _⟩
  have HE2 := Lib.hid (show chkF l = if l.any badF then 2 else if (List.range n).all (formB l) then 0 else 6 by rw [HE.out, if_neg h1])
  have h1' : n ≤ 12 := by omega
  clear h1 HE
  have OUT := Lib.hid (fun x w0 => from_any x 1 10000000 w0)
  have MI := Lib.hid (fun x w0 => mirror_any x w0)
  go_enter Try.func16, Try.ntmps16
  go_wp2_with fail
  go_loop [3] (fun i => ∃ k : Nat, k ≤ n ∧ i = .int .i64 (k : Nat) ∧ (l.take k).any badF = false) (fun i => n - (intOf i).toNat)
  case atStart => exact ⟨0, by omega, rfl, rfl⟩
  case round =>
    obtain ⟨k, hk, rfl, hno⟩ := hrel
    have HN := Lib.hid hno
    clear hno
    by_cases hlt : k < n
    · obtain ⟨f, hf⟩ : ∃ f, l[k]? = some f := ⟨_, List.getElem?_eq_getElem (by rw [HL.out]; exact hlt)⟩
      obtain ⟨b, o, rfl, hbb, c0, c1⟩ := rdf_at HR.out hf
      have O1 := Lib.hid (OUT.out f.w)
      have HS := Lib.hid (show badF f = true → chkF l = 2 from fun h => by rw [HE2.out, if_pos (List.any_eq_true.2 ⟨f, List.mem_of_getElem? hf, h⟩)])
      have HT := Lib.hid (any_take_succ badF l k f hf)
      have HQ := Lib.hid (show badF f = (oB f.w 1 10000000 || decide (f.k < 1) || decide (4 < f.k)) from rfl)
      obtain ⟨fw, fk⟩ := f
      dsimp only at O1 HQ c0 c1
      generalize oB fw 1 10000000 = q1 at *
      clear hf
      cases q1
      · by_cases h2 : fk < 1
        · have HB := Lib.hid (HS.out (by rw [HQ.out]; simp [h2]))
          go_wp2_with fail
          refine (O1.out _).mono ?_
          rintro e w1 ⟨rfl, hw⟩
          subst hw
          go_wp2_with fail
          go_ret
          exact ⟨by rw [HB.out]; rfl, Kp.refl _ _⟩
        · by_cases h3 : 4 < fk
          · have HB := Lib.hid (HS.out (by rw [HQ.out]; simp [h3]))
            go_wp2_with fail
            refine (O1.out _).mono ?_
            rintro e w1 ⟨rfl, hw⟩
            subst hw
            go_wp2_with fail
            go_ret
            exact ⟨by rw [HB.out]; rfl, Kp.refl _ _⟩
          · have HB := Lib.hid (show badF ⟨fw, fk⟩ = false by rw [HQ.out]; simp; omega)
            go_wp2_with fail
            refine (O1.out _).mono ?_
            rintro e w1 ⟨rfl, hw⟩
            subst hw
            go_wp2_with fail
            go_round
            case rel => exact ⟨k + 1, by omega, by go_num, by rw [HT.out, HN.out, HB.out]; rfl⟩
            case measure => simp [intOf]; omega
      · have HB := Lib.hid (HS.out (by rw [HQ.out]; rfl))
        go_wp2_with fail
        refine (O1.out _).mono ?_
        rintro e w1 ⟨rfl, hw⟩
        subst hw
        go_wp2_with fail
        go_ret
        exact ⟨by rw [HB.out]; rfl, Kp.refl _ _⟩
    · obtain rfl : k = n := by omega
      have HNA := Lib.hid (show l.any badF = false by
        have h := HN.out
        rwa [List.take_of_length_le (by rw [HL.out]; exact Nat.le_refl _)] at h)
      have HE3 := Lib.hid (show chkF l = if (List.range k).all (formB l) then 0 else 6 by rw [HE2.out, HNA.out]; rfl)
      clear HN HE2 OUT
      go_wp2_with fail
      go_loopw [4] (fun i wr => ∃ j : Nat, j ≤ k ∧ i = .int .i64 (j : Nat) ∧ (List.range j).all (formB l) = true ∧ Kp No w wr) (fun i _ => k - (intOf i).toNat)
      case atStart => exact ⟨0, by omega, rfl, rfl, Kp.refl _ _⟩
      case round =>
        obtain ⟨j, hj, rfl, hno, hkp⟩ := hrel
        have HN := Lib.hid hno
        have HK := Lib.hid hkp
        clear hno hkp
        by_cases hlt : j < k
        · obtain ⟨f, hf⟩ : ∃ f, l[j]? = some f := ⟨_, List.getElem?_eq_getElem (by rw [HL.out]; exact hlt)⟩
          obtain ⟨i2, hi2⟩ : ∃ i2, i2 = k - 1 - j := ⟨_, rfl⟩
          have hji : (k : Int) - 1 - (j : Int) = (i2 : Int) := by omega
          have hi2k : i2 < k := by omega
          obtain ⟨u, hu⟩ : ∃ u, l[i2]? = some u := ⟨_, List.getElem?_eq_getElem (by rw [HL.out]; omega)⟩
          obtain ⟨b0, o0, rfl, hbb, c0, c1⟩ := rdf_at (HR.out.no HK.out) hf
          obtain ⟨b', o', hA', _, e0, e1⟩ := rdf_at (HR.out.no HK.out) hu
          injection hA' with hA'
          injection hA' with hA1 hA2
          subst hA1 hA2
          have bad : ∀ {i : Nat} {x : Fc}, l[i]? = some x → badF x = false := fun {i x} h => by
            have := List.any_eq_false.1 HNA.out x (List.mem_of_getElem? h)
            simpa using this
          have kf := kind_of (bad hf)
          have ku := kind_of (bad hu)
          have HQ := Lib.hid (show formB l j = (decide (u.w = f.w) && decide (f.k = mirK u.k)) by unfold formB; rw [HL.out, ← hi2, getD_at hu, getD_at hf, mir_mir ⟨kf.1, kf.2.1⟩ ⟨ku.1, ku.2.1⟩])
          have HS := Lib.hid (fun h => form_stop (l := l) (k := j) (by rw [HL.out]; exact hlt) h)
          have M1 := Lib.hid (MI.out u.k)
          obtain ⟨fw, fk⟩ := f
          obtain ⟨uw, uk⟩ := u
          dsimp only at *
          generalize mirK uk = mk at *
          clear hf hu bad kf ku hi2
          go_wp2_with fail
          have t0 : (wr.alloc (.cells #[.int .i64 uw, .int .i64 uk] 84)).cell? ⟨wr.heap.size, 0, none⟩ = some (.int .i64 uw) := by go_simp
          have t1 : (wr.alloc (.cells #[.int .i64 uw, .int .i64 uk] 84)).cell? ⟨wr.heap.size, 1, none⟩ = some (.int .i64 uk) := by go_simp
          have kb : Kp No wr (wr.alloc (.cells #[.int .i64 uw, .int .i64 uk] 84)) := Kp.alloc _ _ _
          have c0 := kb.cell c0 id
          have c1 := kb.cell c1 id
          have HKB := Lib.hid (HK.out.tr kb)
          obtain ⟨g5, hg5⟩ : ∃ g5, g5 = wr.heap.size := ⟨_, rfl⟩
          rw [← hg5] at t0 t1 ⊢
          generalize (wr.alloc (.cells #[.int .i64 uw, .int .i64 uk] 84)) = wb at *
          clear hg5 e0 e1 kb
          by_cases hq : uw = fw
          · have d1 : (fw != uw) = false := by simp [hq]
            by_cases hq2 : fk = mk
            · have d2 : (fk != mk) = false := by simp [hq2]
              have HF := Lib.hid (show (decide (uw = fw) && decide (fk = mk)) = true by simp [hq, hq2])
              clear hq hq2
              have FS : Stab (fun ix wz u => True) := fun ix u wz wz' kz h => trivial
              replace FS := Lib.hid FS
              refine wp_region_each (fun ix uR => match ix with | 0 => uR = .slice (some ⟨b0, o0, none⟩) k ca | 1 => uR = .int .i64 (j : Nat) | 2 => uR = .pointer (some ⟨b0, o0 + j * 2, none⟩) | 3 => uR = .pointer (some ⟨b0, o0 + j * 2, none⟩) | 4 => uR = .int .i64 fw | 5 => uR = .pointer (some ⟨g5, 0, none⟩) | 6 => uR = .int .i64 uw | 7 => uR = .bool false | 8 => uR = .bool false | 9 => uR = .slice (some ⟨b0, o0, none⟩) k ca | 10 => uR = .int .i64 (j : Nat) | 11 => uR = .pointer (some ⟨b0, o0 + j * 2, none⟩) | 12 => uR = .pointer (some ⟨b0, o0 + j * 2 + 1, none⟩) | 13 => uR = .int .i64 fk | 14 => uR = .pointer (some ⟨g5, 1, none⟩) | 15 => uR = .int .i64 uk | 16 => uR = .int .i64 mk | 17 => uR = .bool false | 18 => uR = .bool false | _ => True) (HvW wb (fun ix wz u => True)) (by kernel_rfl) (by kernel_rfl) (by kernel_rfl) ?_ ?_ ?_
              · exact HvW.start _ _
              · refine ⟨?_, ?_, ?_, ?_, ?_, ?_, ?_, ?_, ?_, ?_, ?_, ?_, ?_, ?_, ?_, ?_, ?_, ?_, ?_, trivial⟩
                · intro r a w' hf hg hW hr hd K hK
                  refine wpOp_of rfl rfl ?_
                  have e0 : a.tmps.getD 0 undef = .slice (some ⟨b0, o0, none⟩) k ca := hf.evalFree (by kernel_rfl)
                  go_simp
                  exact hK _ _ rfl (hW.upd 0 _ trivial)
                · intro r a w' hf hg hW hr hd K hK
                  refine wpOp_of rfl rfl ?_
                  have e0 : a.tmps.getD 4 undef = .int .i64 (j : Nat) := hf.evalFree (by kernel_rfl)
                  go_simp
                  exact hK _ _ rfl (hW.upd 1 _ trivial)
                · intro r a w' hf hg hW hr hd K hK
                  refine wpOp_of rfl rfl ?_
                  refine hf.depE hg hd 0 52 (by kernel_rfl) fun u0 e0 g0 h0 => ?_
                  replace g0 : u0 = .slice (some ⟨b0, o0, none⟩) k ca := g0
                  subst g0
                  refine hf.depE hg hd 1 53 (by kernel_rfl) fun u1 e1 g1 h1 => ?_
                  replace g1 : u1 = .int .i64 (j : Nat) := g1
                  subst g1
                  go_simp
                  exact hK _ _ rfl (hW.upd 2 _ trivial)
                · intro r a w' hf hg hW hr hd K hK
                  refine wpOp_of rfl rfl ?_
                  refine hf.depE hg hd 2 54 (by kernel_rfl) fun u0 e0 g0 h0 => ?_
                  replace g0 : u0 = .pointer (some ⟨b0, o0 + j * 2, none⟩) := g0
                  subst g0
                  go_simp
                  exact hK _ _ rfl (hW.upd 3 _ trivial)
                · intro r a w' hf hg hW hr hd K hK
                  refine wpOp_of rfl rfl ?_
                  refine hf.depE hg hd 3 55 (by kernel_rfl) fun u0 e0 g0 h0 => ?_
                  replace g0 : u0 = .pointer (some ⟨b0, o0 + j * 2, none⟩) := g0
                  subst g0
                  have z0 := hW.kp.cell c0 id
                  go_simp
                  exact hK _ _ rfl (hW.upd 4 _ trivial)
                · intro r a w' hf hg hW hr hd K hK
                  refine wpOp_of rfl rfl ?_
                  have e0 : a.tmps.getD 5 undef = .pointer (some ⟨g5, 0, none⟩) := hf.evalFree (by kernel_rfl)
                  go_simp
                  exact hK _ _ rfl (hW.upd 5 _ trivial)
                · intro r a w' hf hg hW hr hd K hK
                  refine wpOp_of rfl rfl ?_
                  refine hf.depE hg hd 5 57 (by kernel_rfl) fun u0 e0 g0 h0 => ?_
                  replace g0 : u0 = .pointer (some ⟨g5, 0, none⟩) := g0
                  subst g0
                  have z0 := hW.kp.cell t0 id
                  go_simp
                  exact hK _ _ rfl (hW.upd 6 _ trivial)
                · intro r a w' hf hg hW hr hd K hK
                  refine wpOp_of rfl rfl ?_
                  refine hf.depE hg hd 4 56 (by kernel_rfl) fun u0 e0 g0 h0 => ?_
                  replace g0 : u0 = .int .i64 fw := g0
                  subst g0
                  refine hf.depE hg hd 6 58 (by kernel_rfl) fun u1 e1 g1 h1 => ?_
                  replace g1 : u1 = .int .i64 uw := g1
                  subst g1
                  go_simp
                  exact hK _ _ rfl (hW.upd 7 _ trivial)
                · intro r a w' hf hg hW hr hd K hK
                  refine wpOp_of rfl rfl ?_
                  refine hf.depE hg hd 7 59 (by kernel_rfl) fun u0 e0 g0 h0 => ?_
                  replace g0 : u0 = .bool false := g0
                  subst g0
                  go_simp
                  exact hK _ _ rfl (hW.upd 8 _ trivial)
                · intro r a w' hf hg hW hr hd K hK
                  refine hf.depE hg hd 8 60 (by kernel_rfl) fun uG eG gG _ => ?_
                  replace gG : uG = .bool false := gG
                  subst gG
                  refine wpOp_run rfl rfl rfl rfl eG ?_
                  have e0 : a.tmps.getD 0 undef = .slice (some ⟨b0, o0, none⟩) k ca := hf.evalFree (by kernel_rfl)
                  go_simp
                  exact hK _ _ rfl (hW.upd 9 _ trivial)
                · intro r a w' hf hg hW hr hd K hK
                  refine hf.depE hg hd 8 60 (by kernel_rfl) fun uG eG gG _ => ?_
                  replace gG : uG = .bool false := gG
                  subst gG
                  refine wpOp_run rfl rfl rfl rfl eG ?_
                  have e0 : a.tmps.getD 4 undef = .int .i64 (j : Nat) := hf.evalFree (by kernel_rfl)
                  go_simp
                  exact hK _ _ rfl (hW.upd 10 _ trivial)
                · intro r a w' hf hg hW hr hd K hK
                  refine hf.depE hg hd 8 60 (by kernel_rfl) fun uG eG gG _ => ?_
                  replace gG : uG = .bool false := gG
                  subst gG
                  refine wpOp_run rfl rfl rfl rfl eG ?_
                  refine hf.depE hg hd 9 61 (by kernel_rfl) fun u0 e0 g0 h0 => ?_
                  replace g0 : u0 = .slice (some ⟨b0, o0, none⟩) k ca := g0
                  subst g0
                  refine hf.depE hg hd 10 62 (by kernel_rfl) fun u1 e1 g1 h1 => ?_
                  replace g1 : u1 = .int .i64 (j : Nat) := g1
                  subst g1
                  go_simp
                  exact hK _ _ rfl (hW.upd 11 _ trivial)
                · intro r a w' hf hg hW hr hd K hK
                  refine hf.depE hg hd 8 60 (by kernel_rfl) fun uG eG gG _ => ?_
                  replace gG : uG = .bool false := gG
                  subst gG
                  refine wpOp_run rfl rfl rfl rfl eG ?_
                  refine hf.depE hg hd 11 63 (by kernel_rfl) fun u0 e0 g0 h0 => ?_
                  replace g0 : u0 = .pointer (some ⟨b0, o0 + j * 2, none⟩) := g0
                  subst g0
                  go_simp
                  exact hK _ _ rfl (hW.upd 12 _ trivial)
                · intro r a w' hf hg hW hr hd K hK
                  refine hf.depE hg hd 8 60 (by kernel_rfl) fun uG eG gG _ => ?_
                  replace gG : uG = .bool false := gG
                  subst gG
                  refine wpOp_run rfl rfl rfl rfl eG ?_
                  refine hf.depE hg hd 12 64 (by kernel_rfl) fun u0 e0 g0 h0 => ?_
                  replace g0 : u0 = .pointer (some ⟨b0, o0 + j * 2 + 1, none⟩) := g0
                  subst g0
                  have z0 := hW.kp.cell c1 id
                  go_simp
                  exact hK _ _ rfl (hW.upd 13 _ trivial)
                · intro r a w' hf hg hW hr hd K hK
                  refine hf.depE hg hd 8 60 (by kernel_rfl) fun uG eG gG _ => ?_
                  replace gG : uG = .bool false := gG
                  subst gG
                  refine wpOp_run rfl rfl rfl rfl eG ?_
                  have e0 : a.tmps.getD 5 undef = .pointer (some ⟨g5, 0, none⟩) := hf.evalFree (by kernel_rfl)
                  go_simp
                  exact hK _ _ rfl (hW.upd 14 _ trivial)
                · intro r a w' hf hg hW hr hd K hK
                  refine hf.depE hg hd 8 60 (by kernel_rfl) fun uG eG gG _ => ?_
                  replace gG : uG = .bool false := gG
                  subst gG
                  refine wpOp_run rfl rfl rfl rfl eG ?_
                  refine hf.depE hg hd 14 66 (by kernel_rfl) fun u0 e0 g0 h0 => ?_
                  replace g0 : u0 = .pointer (some ⟨g5, 1, none⟩) := g0
                  subst g0
                  have z0 := hW.kp.cell t1 id
                  go_simp
                  exact hK _ _ rfl (hW.upd 15 _ trivial)
                · intro r a w' hf hg hW hr hd K hK
                  refine hf.depE hg hd 8 60 (by kernel_rfl) fun uG eG gG _ => ?_
                  replace gG : uG = .bool false := gG
                  subst gG
                  refine wpOp_run rfl rfl rfl rfl eG ?_
                  refine hf.depE hg hd 15 67 (by kernel_rfl) fun u0 e0 g0 h0 => ?_
                  replace g0 : u0 = .int .i64 uk := g0
                  subst g0
                  go_simp
                  refine (M1.out _).mono ?_
                  rintro e w'' ⟨rfl, hw⟩
                  subst hw
                  exact hK _ _ rfl (hW.upd 16 _ trivial)
                · intro r a w' hf hg hW hr hd K hK
                  refine hf.depE hg hd 8 60 (by kernel_rfl) fun uG eG gG _ => ?_
                  replace gG : uG = .bool false := gG
                  subst gG
                  refine wpOp_run rfl rfl rfl rfl eG ?_
                  refine hf.depE hg hd 13 65 (by kernel_rfl) fun u0 e0 g0 h0 => ?_
                  replace g0 : u0 = .int .i64 fk := g0
                  subst g0
                  refine hf.depE hg hd 16 68 (by kernel_rfl) fun u1 e1 g1 h1 => ?_
                  replace g1 : u1 = .int .i64 mk := g1
                  subst g1
                  go_simp
                  exact hK _ _ rfl (hW.upd 17 _ trivial)
                · intro r a w' hf hg hW hr hd K hK
                  refine wpOp_of rfl rfl ?_
                  refine hf.depE hg hd 8 60 (by kernel_rfl) fun u0 e0 g0 h0 => ?_
                  replace g0 : u0 = .bool false := g0
                  subst g0
                  have e0' := get_of_getD e0
                  refine hf.depE hg hd 17 69 (by kernel_rfl) fun u1 e1 g1 h1 => ?_
                  replace g1 : u1 = .bool false := g1
                  subst g1
                  have e1' := get_of_getD e1
                  go_simp
                  exact hK _ _ rfl (hW.upd 18 _ trivial)
              intro r' w3 hg hW hr'
              have hkN := hW.kp
              obtain ⟨q18, hq18⟩ : ∃ u, r' 18 = some u := Option.ne_none_iff_exists'.1 (hr' 18 (by decide))
              have hk18 := hg 18 q18 hq18
              replace hk18 : q18 = .bool false := hk18
              subst hk18
              simp only [List.length_cons, List.length_nil, Nat.reduceAdd, List.range_succ, List.range_zero, List.nil_append, List.cons_append, List.map_cons, List.map_nil, putAll, Act.put, List.setIfInBounds_toArray, List.set_cons_succ, List.set_cons_zero, hq18, Option.getD_some]
              clear hg hW hr' FS hq18
              have HK3 := Lib.hid (HKB.out.tr hkN)
              clear hkN
              go_wp2_with fail
              go_roundw
              case rel => exact ⟨j + 1, by omega, by go_num, by rw [form_all, HN.out, HQ.out, HF.out]; rfl, HK3.out⟩
              case measure => simp [intOf]; omega
            · have d2 : (fk != mk) = true := by simp [hq2]
              have HF := Lib.hid (show (decide (uw = fw) && decide (fk = mk)) = false by simp [hq2])
              clear hq hq2
              have FS : Stab (fun ix wz u => True) := fun ix u wz wz' kz h => trivial
              replace FS := Lib.hid FS
              refine wp_region_each (fun ix uR => match ix with | 0 => uR = .slice (some ⟨b0, o0, none⟩) k ca | 1 => uR = .int .i64 (j : Nat) | 2 => uR = .pointer (some ⟨b0, o0 + j * 2, none⟩) | 3 => uR = .pointer (some ⟨b0, o0 + j * 2, none⟩) | 4 => uR = .int .i64 fw | 5 => uR = .pointer (some ⟨g5, 0, none⟩) | 6 => uR = .int .i64 uw | 7 => uR = .bool false | 8 => uR = .bool false | 9 => uR = .slice (some ⟨b0, o0, none⟩) k ca | 10 => uR = .int .i64 (j : Nat) | 11 => uR = .pointer (some ⟨b0, o0 + j * 2, none⟩) | 12 => uR = .pointer (some ⟨b0, o0 + j * 2 + 1, none⟩) | 13 => uR = .int .i64 fk | 14 => uR = .pointer (some ⟨g5, 1, none⟩) | 15 => uR = .int .i64 uk | 16 => uR = .int .i64 mk | 17 => uR = .bool true | 18 => uR = .bool true | _ => True) (HvW wb (fun ix wz u => True)) (by kernel_rfl) (by kernel_rfl) (by kernel_rfl) ?_ ?_ ?_
              · exact HvW.start _ _
              · refine ⟨?_, ?_, ?_, ?_, ?_, ?_, ?_, ?_, ?_, ?_, ?_, ?_, ?_, ?_, ?_, ?_, ?_, ?_, ?_, trivial⟩
                · intro r a w' hf hg hW hr hd K hK
                  refine wpOp_of rfl rfl ?_
                  have e0 : a.tmps.getD 0 undef = .slice (some ⟨b0, o0, none⟩) k ca := hf.evalFree (by kernel_rfl)
                  go_simp
                  exact hK _ _ rfl (hW.upd 0 _ trivial)
                · intro r a w' hf hg hW hr hd K hK
                  refine wpOp_of rfl rfl ?_
                  have e0 : a.tmps.getD 4 undef = .int .i64 (j : Nat) := hf.evalFree (by kernel_rfl)
                  go_simp
                  exact hK _ _ rfl (hW.upd 1 _ trivial)
                · intro r a w' hf hg hW hr hd K hK
                  refine wpOp_of rfl rfl ?_
                  refine hf.depE hg hd 0 52 (by kernel_rfl) fun u0 e0 g0 h0 => ?_
                  replace g0 : u0 = .slice (some ⟨b0, o0, none⟩) k ca := g0
                  subst g0
                  refine hf.depE hg hd 1 53 (by kernel_rfl) fun u1 e1 g1 h1 => ?_
                  replace g1 : u1 = .int .i64 (j : Nat) := g1
                  subst g1
                  go_simp
                  exact hK _ _ rfl (hW.upd 2 _ trivial)
                · intro r a w' hf hg hW hr hd K hK
                  refine wpOp_of rfl rfl ?_
                  refine hf.depE hg hd 2 54 (by kernel_rfl) fun u0 e0 g0 h0 => ?_
                  replace g0 : u0 = .pointer (some ⟨b0, o0 + j * 2, none⟩) := g0
                  subst g0
                  go_simp
                  exact hK _ _ rfl (hW.upd 3 _ trivial)
                · intro r a w' hf hg hW hr hd K hK
                  refine wpOp_of rfl rfl ?_
                  refine hf.depE hg hd 3 55 (by kernel_rfl) fun u0 e0 g0 h0 => ?_
                  replace g0 : u0 = .pointer (some ⟨b0, o0 + j * 2, none⟩) := g0
                  subst g0
                  have z0 := hW.kp.cell c0 id
                  go_simp
                  exact hK _ _ rfl (hW.upd 4 _ trivial)
                · intro r a w' hf hg hW hr hd K hK
                  refine wpOp_of rfl rfl ?_
                  have e0 : a.tmps.getD 5 undef = .pointer (some ⟨g5, 0, none⟩) := hf.evalFree (by kernel_rfl)
                  go_simp
                  exact hK _ _ rfl (hW.upd 5 _ trivial)
                · intro r a w' hf hg hW hr hd K hK
                  refine wpOp_of rfl rfl ?_
                  refine hf.depE hg hd 5 57 (by kernel_rfl) fun u0 e0 g0 h0 => ?_
                  replace g0 : u0 = .pointer (some ⟨g5, 0, none⟩) := g0
                  subst g0
                  have z0 := hW.kp.cell t0 id
                  go_simp
                  exact hK _ _ rfl (hW.upd 6 _ trivial)
                · intro r a w' hf hg hW hr hd K hK
                  refine wpOp_of rfl rfl ?_
                  refine hf.depE hg hd 4 56 (by kernel_rfl) fun u0 e0 g0 h0 => ?_
                  replace g0 : u0 = .int .i64 fw := g0
                  subst g0
                  refine hf.depE hg hd 6 58 (by kernel_rfl) fun u1 e1 g1 h1 => ?_
                  replace g1 : u1 = .int .i64 uw := g1
                  subst g1
                  go_simp
                  exact hK _ _ rfl (hW.upd 7 _ trivial)
                · intro r a w' hf hg hW hr hd K hK
                  refine wpOp_of rfl rfl ?_
                  refine hf.depE hg hd 7 59 (by kernel_rfl) fun u0 e0 g0 h0 => ?_
                  replace g0 : u0 = .bool false := g0
                  subst g0
                  go_simp
                  exact hK _ _ rfl (hW.upd 8 _ trivial)
                · intro r a w' hf hg hW hr hd K hK
                  refine hf.depE hg hd 8 60 (by kernel_rfl) fun uG eG gG _ => ?_
                  replace gG : uG = .bool false := gG
                  subst gG
                  refine wpOp_run rfl rfl rfl rfl eG ?_
                  have e0 : a.tmps.getD 0 undef = .slice (some ⟨b0, o0, none⟩) k ca := hf.evalFree (by kernel_rfl)
                  go_simp
                  exact hK _ _ rfl (hW.upd 9 _ trivial)
                · intro r a w' hf hg hW hr hd K hK
                  refine hf.depE hg hd 8 60 (by kernel_rfl) fun uG eG gG _ => ?_
                  replace gG : uG = .bool false := gG
                  subst gG
                  refine wpOp_run rfl rfl rfl rfl eG ?_
                  have e0 : a.tmps.getD 4 undef = .int .i64 (j : Nat) := hf.evalFree (by kernel_rfl)
                  go_simp
                  exact hK _ _ rfl (hW.upd 10 _ trivial)
                · intro r a w' hf hg hW hr hd K hK
                  refine hf.depE hg hd 8 60 (by kernel_rfl) fun uG eG gG _ => ?_
                  replace gG : uG = .bool false := gG
                  subst gG
                  refine wpOp_run rfl rfl rfl rfl eG ?_
                  refine hf.depE hg hd 9 61 (by kernel_rfl) fun u0 e0 g0 h0 => ?_
                  replace g0 : u0 = .slice (some ⟨b0, o0, none⟩) k ca := g0
                  subst g0
                  refine hf.depE hg hd 10 62 (by kernel_rfl) fun u1 e1 g1 h1 => ?_
                  replace g1 : u1 = .int .i64 (j : Nat) := g1
                  subst g1
                  go_simp
                  exact hK _ _ rfl (hW.upd 11 _ trivial)
                · intro r a w' hf hg hW hr hd K hK
                  refine hf.depE hg hd 8 60 (by kernel_rfl) fun uG eG gG _ => ?_
                  replace gG : uG = .bool false := gG
                  subst gG
                  refine wpOp_run rfl rfl rfl rfl eG ?_
                  refine hf.depE hg hd 11 63 (by kernel_rfl) fun u0 e0 g0 h0 => ?_
                  replace g0 : u0 = .pointer (some ⟨b0, o0 + j * 2, none⟩) := g0
                  subst g0
                  go_simp
                  exact hK _ _ rfl (hW.upd 12 _ trivial)
                · intro r a w' hf hg hW hr hd K hK
                  refine hf.depE hg hd 8 60 (by kernel_rfl) fun uG eG gG _ => ?_
                  replace gG : uG = .bool false := gG
                  subst gG
                  refine wpOp_run rfl rfl rfl rfl eG ?_
                  refine hf.depE hg hd 12 64 (by kernel_rfl) fun u0 e0 g0 h0 => ?_
                  replace g0 : u0 = .pointer (some ⟨b0, o0 + j * 2 + 1, none⟩) := g0
                  subst g0
                  have z0 := hW.kp.cell c1 id
                  go_simp
                  exact hK _ _ rfl (hW.upd 13 _ trivial)
                · intro r a w' hf hg hW hr hd K hK
                  refine hf.depE hg hd 8 60 (by kernel_rfl) fun uG eG gG _ => ?_
                  replace gG : uG = .bool false := gG
                  subst gG
                  refine wpOp_run rfl rfl rfl rfl eG ?_
                  have e0 : a.tmps.getD 5 undef = .pointer (some ⟨g5, 0, none⟩) := hf.evalFree (by kernel_rfl)
                  go_simp
                  exact hK _ _ rfl (hW.upd 14 _ trivial)
                · intro r a w' hf hg hW hr hd K hK
                  refine hf.depE hg hd 8 60 (by kernel_rfl) fun uG eG gG _ => ?_
                  replace gG : uG = .bool false := gG
                  subst gG
                  refine wpOp_run rfl rfl rfl rfl eG ?_
                  refine hf.depE hg hd 14 66 (by kernel_rfl) fun u0 e0 g0 h0 => ?_
                  replace g0 : u0 = .pointer (some ⟨g5, 1, none⟩) := g0
                  subst g0
                  have z0 := hW.kp.cell t1 id
                  go_simp
                  exact hK _ _ rfl (hW.upd 15 _ trivial)
                · intro r a w' hf hg hW hr hd K hK
                  refine hf.depE hg hd 8 60 (by kernel_rfl) fun uG eG gG _ => ?_
                  replace gG : uG = .bool false := gG
                  subst gG
                  refine wpOp_run rfl rfl rfl rfl eG ?_
                  refine hf.depE hg hd 15 67 (by kernel_rfl) fun u0 e0 g0 h0 => ?_
                  replace g0 : u0 = .int .i64 uk := g0
                  subst g0
                  go_simp
                  refine (M1.out _).mono ?_
                  rintro e w'' ⟨rfl, hw⟩
                  subst hw
                  exact hK _ _ rfl (hW.upd 16 _ trivial)
                · intro r a w' hf hg hW hr hd K hK
                  refine hf.depE hg hd 8 60 (by kernel_rfl) fun uG eG gG _ => ?_
                  replace gG : uG = .bool false := gG
                  subst gG
                  refine wpOp_run rfl rfl rfl rfl eG ?_
                  refine hf.depE hg hd 13 65 (by kernel_rfl) fun u0 e0 g0 h0 => ?_
                  replace g0 : u0 = .int .i64 fk := g0
                  subst g0
                  refine hf.depE hg hd 16 68 (by kernel_rfl) fun u1 e1 g1 h1 => ?_
                  replace g1 : u1 = .int .i64 mk := g1
                  subst g1
                  go_simp
                  exact hK _ _ rfl (hW.upd 17 _ trivial)
                · intro r a w' hf hg hW hr hd K hK
                  refine wpOp_of rfl rfl ?_
                  refine hf.depE hg hd 8 60 (by kernel_rfl) fun u0 e0 g0 h0 => ?_
                  replace g0 : u0 = .bool false := g0
                  subst g0
                  have e0' := get_of_getD e0
                  refine hf.depE hg hd 17 69 (by kernel_rfl) fun u1 e1 g1 h1 => ?_
                  replace g1 : u1 = .bool true := g1
                  subst g1
                  have e1' := get_of_getD e1
                  go_simp
                  exact hK _ _ rfl (hW.upd 18 _ trivial)
              intro r' w3 hg hW hr'
              have hkN := hW.kp
              obtain ⟨q18, hq18⟩ : ∃ u, r' 18 = some u := Option.ne_none_iff_exists'.1 (hr' 18 (by decide))
              have hk18 := hg 18 q18 hq18
              replace hk18 : q18 = .bool true := hk18
              subst hk18
              simp only [List.length_cons, List.length_nil, Nat.reduceAdd, List.range_succ, List.range_zero, List.nil_append, List.cons_append, List.map_cons, List.map_nil, putAll, Act.put, List.setIfInBounds_toArray, List.set_cons_succ, List.set_cons_zero, hq18, Option.getD_some]
              clear hg hW hr' FS hq18
              have HK3 := Lib.hid (HKB.out.tr hkN)
              clear hkN
              go_wp2_with fail
              go_ret
              exact ⟨by rw [HE3.out, ← HL.out, HS.out (by rw [HQ.out, HF.out])]; rfl, HK3.out⟩
          · have d1 : (fw != uw) = true := by simp; omega
            have HF := Lib.hid (show (decide (uw = fw) && decide (fk = mk)) = false by simp [hq])
            clear hq
            have FS : Stab (fun ix wz u => True) := fun ix u wz wz' kz h => trivial
            replace FS := Lib.hid FS
            refine wp_region_each (fun ix uR => match ix with | 0 => uR = .slice (some ⟨b0, o0, none⟩) k ca | 1 => uR = .int .i64 (j : Nat) | 2 => uR = .pointer (some ⟨b0, o0 + j * 2, none⟩) | 3 => uR = .pointer (some ⟨b0, o0 + j * 2, none⟩) | 4 => uR = .int .i64 fw | 5 => uR = .pointer (some ⟨g5, 0, none⟩) | 6 => uR = .int .i64 uw | 7 => uR = .bool true | 8 => uR = .bool true | 9 => uR = undef | 10 => uR = undef | 11 => uR = undef | 12 => uR = undef | 13 => uR = undef | 14 => uR = undef | 15 => uR = undef | 16 => uR = undef | 17 => uR = undef | 18 => uR = .bool true | _ => True) (HvW wb (fun ix wz u => True)) (by kernel_rfl) (by kernel_rfl) (by kernel_rfl) ?_ ?_ ?_
            · exact HvW.start _ _
            · refine ⟨?_, ?_, ?_, ?_, ?_, ?_, ?_, ?_, ?_, ?_, ?_, ?_, ?_, ?_, ?_, ?_, ?_, ?_, ?_, trivial⟩
              · intro r a w' hf hg hW hr hd K hK
                refine wpOp_of rfl rfl ?_
                have e0 : a.tmps.getD 0 undef = .slice (some ⟨b0, o0, none⟩) k ca := hf.evalFree (by kernel_rfl)
                go_simp
                exact hK _ _ rfl (hW.upd 0 _ trivial)
              · intro r a w' hf hg hW hr hd K hK
                refine wpOp_of rfl rfl ?_
                have e0 : a.tmps.getD 4 undef = .int .i64 (j : Nat) := hf.evalFree (by kernel_rfl)
                go_simp
                exact hK _ _ rfl (hW.upd 1 _ trivial)
              · intro r a w' hf hg hW hr hd K hK
                refine wpOp_of rfl rfl ?_
                refine hf.depE hg hd 0 52 (by kernel_rfl) fun u0 e0 g0 h0 => ?_
                replace g0 : u0 = .slice (some ⟨b0, o0, none⟩) k ca := g0
                subst g0
                refine hf.depE hg hd 1 53 (by kernel_rfl) fun u1 e1 g1 h1 => ?_
                replace g1 : u1 = .int .i64 (j : Nat) := g1
                subst g1
                go_simp
                exact hK _ _ rfl (hW.upd 2 _ trivial)
              · intro r a w' hf hg hW hr hd K hK
                refine wpOp_of rfl rfl ?_
                refine hf.depE hg hd 2 54 (by kernel_rfl) fun u0 e0 g0 h0 => ?_
                replace g0 : u0 = .pointer (some ⟨b0, o0 + j * 2, none⟩) := g0
                subst g0
                go_simp
                exact hK _ _ rfl (hW.upd 3 _ trivial)
              · intro r a w' hf hg hW hr hd K hK
                refine wpOp_of rfl rfl ?_
                refine hf.depE hg hd 3 55 (by kernel_rfl) fun u0 e0 g0 h0 => ?_
                replace g0 : u0 = .pointer (some ⟨b0, o0 + j * 2, none⟩) := g0
                subst g0
                have z0 := hW.kp.cell c0 id
                go_simp
                exact hK _ _ rfl (hW.upd 4 _ trivial)
              · intro r a w' hf hg hW hr hd K hK
                refine wpOp_of rfl rfl ?_
                have e0 : a.tmps.getD 5 undef = .pointer (some ⟨g5, 0, none⟩) := hf.evalFree (by kernel_rfl)
                go_simp
                exact hK _ _ rfl (hW.upd 5 _ trivial)
              · intro r a w' hf hg hW hr hd K hK
                refine wpOp_of rfl rfl ?_
                refine hf.depE hg hd 5 57 (by kernel_rfl) fun u0 e0 g0 h0 => ?_
                replace g0 : u0 = .pointer (some ⟨g5, 0, none⟩) := g0
                subst g0
                have z0 := hW.kp.cell t0 id
                go_simp
                exact hK _ _ rfl (hW.upd 6 _ trivial)
              · intro r a w' hf hg hW hr hd K hK
                refine wpOp_of rfl rfl ?_
                refine hf.depE hg hd 4 56 (by kernel_rfl) fun u0 e0 g0 h0 => ?_
                replace g0 : u0 = .int .i64 fw := g0
                subst g0
                refine hf.depE hg hd 6 58 (by kernel_rfl) fun u1 e1 g1 h1 => ?_
                replace g1 : u1 = .int .i64 uw := g1
                subst g1
                go_simp
                exact hK _ _ rfl (hW.upd 7 _ trivial)
              · intro r a w' hf hg hW hr hd K hK
                refine wpOp_of rfl rfl ?_
                refine hf.depE hg hd 7 59 (by kernel_rfl) fun u0 e0 g0 h0 => ?_
                replace g0 : u0 = .bool true := g0
                subst g0
                go_simp
                exact hK _ _ rfl (hW.upd 8 _ trivial)
              · intro r a w' hf hg hW hr hd K hK
                refine hf.depE hg hd 8 60 (by kernel_rfl) fun uG eG gG _ => ?_
                replace gG : uG = .bool true := gG
                subst gG
                refine wpOp_skip rfl rfl rfl rfl eG (by decide) ?_
                exact hK _ _ rfl (hW.upd 9 _ trivial)
              · intro r a w' hf hg hW hr hd K hK
                refine hf.depE hg hd 8 60 (by kernel_rfl) fun uG eG gG _ => ?_
                replace gG : uG = .bool true := gG
                subst gG
                refine wpOp_skip rfl rfl rfl rfl eG (by decide) ?_
                exact hK _ _ rfl (hW.upd 10 _ trivial)
              · intro r a w' hf hg hW hr hd K hK
                refine hf.depE hg hd 8 60 (by kernel_rfl) fun uG eG gG _ => ?_
                replace gG : uG = .bool true := gG
                subst gG
                refine wpOp_skip rfl rfl rfl rfl eG (by decide) ?_
                exact hK _ _ rfl (hW.upd 11 _ trivial)
              · intro r a w' hf hg hW hr hd K hK
                refine hf.depE hg hd 8 60 (by kernel_rfl) fun uG eG gG _ => ?_
                replace gG : uG = .bool true := gG
                subst gG
                refine wpOp_skip rfl rfl rfl rfl eG (by decide) ?_
                exact hK _ _ rfl (hW.upd 12 _ trivial)
              · intro r a w' hf hg hW hr hd K hK
                refine hf.depE hg hd 8 60 (by kernel_rfl) fun uG eG gG _ => ?_
                replace gG : uG = .bool true := gG
                subst gG
                refine wpOp_skip rfl rfl rfl rfl eG (by decide) ?_
                exact hK _ _ rfl (hW.upd 13 _ trivial)
              · intro r a w' hf hg hW hr hd K hK
                refine hf.depE hg hd 8 60 (by kernel_rfl) fun uG eG gG _ => ?_
                replace gG : uG = .bool true := gG
                subst gG
                refine wpOp_skip rfl rfl rfl rfl eG (by decide) ?_
                exact hK _ _ rfl (hW.upd 14 _ trivial)
              · intro r a w' hf hg hW hr hd K hK
                refine hf.depE hg hd 8 60 (by kernel_rfl) fun uG eG gG _ => ?_
                replace gG : uG = .bool true := gG
                subst gG
                refine wpOp_skip rfl rfl rfl rfl eG (by decide) ?_
                exact hK _ _ rfl (hW.upd 15 _ trivial)
              · intro r a w' hf hg hW hr hd K hK
                refine hf.depE hg hd 8 60 (by kernel_rfl) fun uG eG gG _ => ?_
                replace gG : uG = .bool true := gG
                subst gG
                refine wpOp_skip rfl rfl rfl rfl eG (by decide) ?_
                exact hK _ _ rfl (hW.upd 16 _ trivial)
              · intro r a w' hf hg hW hr hd K hK
                refine hf.depE hg hd 8 60 (by kernel_rfl) fun uG eG gG _ => ?_
                replace gG : uG = .bool true := gG
                subst gG
                refine wpOp_skip rfl rfl rfl rfl eG (by decide) ?_
                exact hK _ _ rfl (hW.upd 17 _ trivial)
              · intro r a w' hf hg hW hr hd K hK
                refine wpOp_of rfl rfl ?_
                refine hf.depE hg hd 8 60 (by kernel_rfl) fun u0 e0 g0 h0 => ?_
                replace g0 : u0 = .bool true := g0
                subst g0
                have e0' := get_of_getD e0
                refine hf.depE hg hd 17 69 (by kernel_rfl) fun u1 e1 g1 h1 => ?_
                replace g1 : u1 = undef := g1
                subst g1
                have e1' := get_of_getD e1
                go_simp
                exact hK _ _ rfl (hW.upd 18 _ trivial)
            intro r' w3 hg hW hr'
            have hkN := hW.kp
            obtain ⟨q18, hq18⟩ : ∃ u, r' 18 = some u := Option.ne_none_iff_exists'.1 (hr' 18 (by decide))
            have hk18 := hg 18 q18 hq18
            replace hk18 : q18 = .bool true := hk18
            subst hk18
            simp only [List.length_cons, List.length_nil, Nat.reduceAdd, List.range_succ, List.range_zero, List.nil_append, List.cons_append, List.map_cons, List.map_nil, putAll, Act.put, List.setIfInBounds_toArray, List.set_cons_succ, List.set_cons_zero, hq18, Option.getD_some]
            clear hg hW hr' FS hq18
            have HK3 := Lib.hid (HKB.out.tr hkN)
            clear hkN
            go_wp2_with fail
            go_ret
            exact ⟨by rw [HE3.out, ← HL.out, HS.out (by rw [HQ.out, HF.out])]; rfl, HK3.out⟩
        · obtain rfl : j = k := by omega
          go_wp2_with fail
          go_ret
          exact ⟨by rw [HE3.out, HN.out]; rfl, HK.out⟩
end Go.Proofs.Ytakgcnjpmpcekaa
