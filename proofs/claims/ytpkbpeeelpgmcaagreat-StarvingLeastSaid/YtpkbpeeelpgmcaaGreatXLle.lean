/- Chapter 15: law StarvingLeast. Printed by gen_lle.py SEAT NUMBER-OF-THE-LAW. -/
import Derived.Test.YtpkbpeeelpgmcaaGreatXShnM
namespace Go.Proofs.YtpkbpeeelpgmcaaGreat
open Go.RowKit Go.Kq Go.Flow

theorem farB_few {zn : Int} {zt zc n : Nat} {l : List Sto} (h : farB zn zt zc n l = false) : n ≤ 20 ∧ ∀ s ∈ l, s.tk.length ≤ 20 := by
  unfold farB at h
  simp only [Bool.or_eq_false_iff, decide_eq_false_iff_not, List.any_eq_false, decide_eq_true_eq] at h
  exact ⟨by omega, fun s hs => by have := h.2 s hs; omega⟩
set_option maxHeartbeats 8000000 in
set_option maxRecDepth 100000 in
theorem least_law (Z : Nz) (l : List Sto) (vs : List Sv) (A B C : Option Addr) (ca cb n cc : Nat) (w : World) (hR : RdNz w A B Z) (hS : RdSt w C n vs l) :
    Calls Tryz.prog 4 #[windV Z A B C ca cb n cc] w fun e w' => e = .returned (.bool true) ∧ Kp No w w' := by
  obtain ⟨w0, hw0⟩ : ∃ w0, (w.alloc (.cells #[.int .i64 Z.n, .slice A Z.tr.length ca, .slice B Z.ch.length cb, .slice C n cc] 28)) = w0 := ⟨_, rfl⟩
  have hk0 : Kp No w w0 := by rw [← hw0]; exact Kp.alloc _ _ _
  have HBX := Lib.hid (show w0.heap[w.heap.size]? = some (.cells #[.int .i64 Z.n, .slice A Z.tr.length ca, .slice B Z.ch.length cb, .slice C n cc] 28 (0, 0)) by rw [← hw0]; exact heap_alloc_new w _)
  have HK := Lib.hid hk0
  have HR := Lib.hid (hR.no hk0)
  have HS := Lib.hid (hS.no hk0)
  have HLN := Lib.hid hS.len
  have FA := fun W (k : Kp No w0 W) => far_z Z l vs A B C ca cb n cc W (HS.out.no k)
  have RC := fun W (k : Kp No w0 W) => rWcheck_any Z l vs A B C ca cb n cc W (HR.out.no k) (HS.out.no k)
  have LB := fun c W (k : Kp No w0 W) hc hz => Least_bad Z l vs A B C ca cb n cc c W (HR.out.no k) (HS.out.no k) hc hz
  have RB := fun c W (k : Kp No w0 W) hc hz => rLeast_bad Z l vs A B C ca cb n cc c W (HR.out.no k) (HS.out.no k) hc hz
  unfold windV at FA RC LB RB ⊢
  unfold FarZ at FA
  obtain ⟨cz, hcz⟩ := chkW_total Z l
  have HCZ := Lib.hid hcz
  replace FA := Lib.hid FA
  replace RC := Lib.hid RC
  replace LB := Lib.hid LB
  replace RB := Lib.hid RB
  clear hk0 hR hS hcz
  obtain ⟨p0, p1, p2, p3⟩ := four_at HBX.out
  obtain ⟨fb, hfb⟩ : ∃ fb, fb = farB Z.n Z.tr.length Z.ch.length n l := ⟨_, rfl⟩
  have HFB := Lib.hid hfb
  have hno := fun h : fb = false => farB_few (hfb.symm.trans h)
  have hno2 := fun h : fb = false => farB_no (hfb.symm.trans h)
  clear hfb
  go_enter Tryz.func4, Tryz.ntmps4
  cases fb with
  | true =>
    clear hno hno2
    go_wp2_with fail
    have FS : Stab (fun ix wz u => True) := fun ix u wz wz' kz h => trivial
    replace FS := Lib.hid FS
    refine wp_region_each (fun ix uR => match ix with | 0 => uR = .agg #[.int .i64 Z.n, .slice A Z.tr.length ca, .slice B Z.ch.length cb, .slice C n cc] | 1 => uR = .bool true | 2 => uR = .bool true | 3 => uR = undef | 4 => uR = undef | 5 => uR = undef | 6 => uR = undef | 7 => uR = undef | 8 => uR = undef | 9 => uR = undef | 10 => uR = undef | 11 => uR = undef | 12 => uR = undef | 13 => uR = undef | 14 => uR = undef | 15 => uR = undef | 16 => uR = undef | 17 => uR = undef | 18 => uR = undef | 19 => uR = undef | 20 => uR = undef | 21 => uR = undef | 22 => uR = undef | 23 => uR = undef | 24 => uR = undef | 25 => uR = .bool true | _ => True) (HvW w0 (fun ix wz u => True)) (by kernel_rfl) (by kernel_rfl) (by kernel_rfl) ?_ ?_ ?_
    · exact HvW.start _ _
    · refine ⟨?_, ?_, ?_, ?_, ?_, ?_, ?_, ?_, ?_, ?_, ?_, ?_, ?_, ?_, ?_, ?_, ?_, ?_, ?_, ?_, ?_, ?_, ?_, ?_, ?_, ?_, trivial⟩
      · intro r a w' hf hg hW hr hd K hK
        refine wpOp_of rfl rfl ?_
        have e0 : a.tmps.getD 1 undef = .pointer (some ⟨w.heap.size, 0, none⟩) := hf.evalFree (by kernel_rfl)
        have z0 := hW.kp.cell p0 id
        have z1 := hW.kp.cell p1 id
        have z2 := hW.kp.cell p2 id
        have z3 := hW.kp.cell p3 id
        go_simp
        exact hK _ _ rfl (hW.upd 0 _ trivial)
      · intro r a w' hf hg hW hr hd K hK
        refine wpOp_of rfl rfl ?_
        refine hf.depE hg hd 0 7 (by kernel_rfl) fun u0 e0 g0 h0 => ?_
        replace g0 : u0 = .agg #[.int .i64 Z.n, .slice A Z.tr.length ca, .slice B Z.ch.length cb, .slice C n cc] := g0
        subst g0
        have FX := FA.out _ hW.kp
        go_simp
        with_reducible refine FX.mono ?_
        rintro e w'' ⟨b, rfl, hb, k⟩
        rw [← HFB.out] at hb
        subst hb
        exact hK _ _ rfl ((hW.call FS.out k).upd 1 _ trivial)
      · intro r a w' hf hg hW hr hd K hK
        refine wpOp_of rfl rfl ?_
        refine hf.depE hg hd 1 8 (by kernel_rfl) fun u0 e0 g0 h0 => ?_
        replace g0 : u0 = .bool true := g0
        subst g0
        go_simp
        exact hK _ _ rfl (hW.upd 2 _ trivial)
      · intro r a w' hf hg hW hr hd K hK
        refine hf.depE hg hd 2 9 (by kernel_rfl) fun uG eG gG _ => ?_
        replace gG : uG = .bool true := gG
        subst gG
        refine wpOp_skip rfl rfl rfl rfl eG (by decide) ?_
        exact hK _ _ rfl (hW.upd 3 _ trivial)
      · intro r a w' hf hg hW hr hd K hK
        refine hf.depE hg hd 2 9 (by kernel_rfl) fun uG eG gG _ => ?_
        replace gG : uG = .bool true := gG
        subst gG
        refine wpOp_skip rfl rfl rfl rfl eG (by decide) ?_
        exact hK _ _ rfl (hW.upd 4 _ trivial)
      · intro r a w' hf hg hW hr hd K hK
        refine hf.depE hg hd 2 9 (by kernel_rfl) fun uG eG gG _ => ?_
        replace gG : uG = .bool true := gG
        subst gG
        refine wpOp_skip rfl rfl rfl rfl eG (by decide) ?_
        exact hK _ _ rfl (hW.upd 5 _ trivial)
      · intro r a w' hf hg hW hr hd K hK
        refine hf.depE hg hd 2 9 (by kernel_rfl) fun uG eG gG _ => ?_
        replace gG : uG = .bool true := gG
        subst gG
        refine wpOp_skip rfl rfl rfl rfl eG (by decide) ?_
        exact hK _ _ rfl (hW.upd 6 _ trivial)
      · intro r a w' hf hg hW hr hd K hK
        refine hf.depE hg hd 2 9 (by kernel_rfl) fun uG eG gG _ => ?_
        replace gG : uG = .bool true := gG
        subst gG
        refine wpOp_skip rfl rfl rfl rfl eG (by decide) ?_
        exact hK _ _ rfl (hW.upd 7 _ trivial)
      · intro r a w' hf hg hW hr hd K hK
        refine hf.depE hg hd 7 14 (by kernel_rfl) fun uG eG gG _ => ?_
        replace gG : uG = undef := gG
        subst gG
        refine wpOp_skipU rfl rfl rfl rfl eG ?_
        exact hK _ _ rfl (hW.upd 8 _ trivial)
      · intro r a w' hf hg hW hr hd K hK
        refine hf.depE hg hd 7 14 (by kernel_rfl) fun uG eG gG _ => ?_
        replace gG : uG = undef := gG
        subst gG
        refine wpOp_skipU rfl rfl rfl rfl eG ?_
        exact hK _ _ rfl (hW.upd 9 _ trivial)
      · intro r a w' hf hg hW hr hd K hK
        refine hf.depE hg hd 7 14 (by kernel_rfl) fun uG eG gG _ => ?_
        replace gG : uG = undef := gG
        subst gG
        refine wpOp_skipU rfl rfl rfl rfl eG ?_
        exact hK _ _ rfl (hW.upd 10 _ trivial)
      · intro r a w' hf hg hW hr hd K hK
        refine hf.depE hg hd 7 14 (by kernel_rfl) fun uG eG gG _ => ?_
        replace gG : uG = undef := gG
        subst gG
        refine wpOp_skipU rfl rfl rfl rfl eG ?_
        exact hK _ _ rfl (hW.upd 11 _ trivial)
      · intro r a w' hf hg hW hr hd K hK
        refine hf.depE hg hd 7 14 (by kernel_rfl) fun uG eG gG _ => ?_
        replace gG : uG = undef := gG
        subst gG
        refine wpOp_skipU rfl rfl rfl rfl eG ?_
        exact hK _ _ rfl (hW.upd 12 _ trivial)
      · intro r a w' hf hg hW hr hd K hK
        refine hf.depE hg hd 7 14 (by kernel_rfl) fun uG eG gG _ => ?_
        replace gG : uG = undef := gG
        subst gG
        refine wpOp_skipU rfl rfl rfl rfl eG ?_
        exact hK _ _ rfl (hW.upd 13 _ trivial)
      · intro r a w' hf hg hW hr hd K hK
        refine hf.depE hg hd 7 14 (by kernel_rfl) fun uG eG gG _ => ?_
        replace gG : uG = undef := gG
        subst gG
        refine wpOp_skipU rfl rfl rfl rfl eG ?_
        exact hK _ _ rfl (hW.upd 14 _ trivial)
      · intro r a w' hf hg hW hr hd K hK
        refine hf.depE hg hd 7 14 (by kernel_rfl) fun uG eG gG _ => ?_
        replace gG : uG = undef := gG
        subst gG
        refine wpOp_skipU rfl rfl rfl rfl eG ?_
        exact hK _ _ rfl (hW.upd 15 _ trivial)
      · intro r a w' hf hg hW hr hd K hK
        refine hf.depE hg hd 7 14 (by kernel_rfl) fun uG eG gG _ => ?_
        replace gG : uG = undef := gG
        subst gG
        refine wpOp_skipU rfl rfl rfl rfl eG ?_
        exact hK _ _ rfl (hW.upd 16 _ trivial)
      · intro r a w' hf hg hW hr hd K hK
        refine hf.depE hg hd 7 14 (by kernel_rfl) fun uG eG gG _ => ?_
        replace gG : uG = undef := gG
        subst gG
        refine wpOp_skipU rfl rfl rfl rfl eG ?_
        exact hK _ _ rfl (hW.upd 17 _ trivial)
      · intro r a w' hf hg hW hr hd K hK
        refine hf.depE hg hd 7 14 (by kernel_rfl) fun uG eG gG _ => ?_
        replace gG : uG = undef := gG
        subst gG
        refine wpOp_skipU rfl rfl rfl rfl eG ?_
        exact hK _ _ rfl (hW.upd 18 _ trivial)
      · intro r a w' hf hg hW hr hd K hK
        refine hf.depE hg hd 2 9 (by kernel_rfl) fun uG eG gG _ => ?_
        replace gG : uG = .bool true := gG
        subst gG
        refine wpOp_skip rfl rfl rfl rfl eG (by decide) ?_
        exact hK _ _ rfl (hW.upd 19 _ trivial)
      · intro r a w' hf hg hW hr hd K hK
        refine hf.depE hg hd 2 9 (by kernel_rfl) fun uG eG gG _ => ?_
        replace gG : uG = .bool true := gG
        subst gG
        refine wpOp_skip rfl rfl rfl rfl eG (by decide) ?_
        exact hK _ _ rfl (hW.upd 20 _ trivial)
      · intro r a w' hf hg hW hr hd K hK
        refine hf.depE hg hd 20 27 (by kernel_rfl) fun uG eG gG _ => ?_
        replace gG : uG = undef := gG
        subst gG
        refine wpOp_skipU rfl rfl rfl rfl eG ?_
        exact hK _ _ rfl (hW.upd 21 _ trivial)
      · intro r a w' hf hg hW hr hd K hK
        refine hf.depE hg hd 20 27 (by kernel_rfl) fun uG eG gG _ => ?_
        replace gG : uG = undef := gG
        subst gG
        refine wpOp_skipU rfl rfl rfl rfl eG ?_
        exact hK _ _ rfl (hW.upd 22 _ trivial)
      · intro r a w' hf hg hW hr hd K hK
        refine hf.depE hg hd 20 27 (by kernel_rfl) fun uG eG gG _ => ?_
        replace gG : uG = undef := gG
        subst gG
        refine wpOp_skipU rfl rfl rfl rfl eG ?_
        exact hK _ _ rfl (hW.upd 23 _ trivial)
      · intro r a w' hf hg hW hr hd K hK
        refine hf.depE hg hd 2 9 (by kernel_rfl) fun uG eG gG _ => ?_
        replace gG : uG = .bool true := gG
        subst gG
        refine wpOp_skip rfl rfl rfl rfl eG (by decide) ?_
        exact hK _ _ rfl (hW.upd 24 _ trivial)
      · intro r a w' hf hg hW hr hd K hK
        refine wpOp_of rfl rfl ?_
        refine hf.depE hg hd 2 9 (by kernel_rfl) fun u0 e0 g0 h0 => ?_
        replace g0 : u0 = .bool true := g0
        subst g0
        have e0' := get_of_getD e0
        refine hf.depE hg hd 24 31 (by kernel_rfl) fun u1 e1 g1 h1 => ?_
        replace g1 : u1 = undef := g1
        subst g1
        have e1' := get_of_getD e1
        go_simp
        exact hK _ _ rfl (hW.upd 25 _ trivial)
    intro r' w1 hg hW hr'
    have hkN := hW.kp
    obtain ⟨q25, hq25⟩ : ∃ u, r' 25 = some u := Option.ne_none_iff_exists'.1 (hr' 25 (by decide))
    have hk25 := hg 25 q25 hq25
    replace hk25 : q25 = .bool true := hk25
    subst hk25
    simp only [List.length_cons, List.length_nil, Nat.reduceAdd, List.range_succ, List.range_zero, List.nil_append, List.cons_append, List.map_cons, List.map_nil, putAll, Act.put, List.setIfInBounds_toArray, List.set_cons_succ, List.set_cons_zero, hq25, Option.getD_some]
    clear hg hW hr' FS hq25
    have K1 := Lib.hid hkN
    clear hkN p0 p1 p2 p3
    go_wp2_with fail
    with_reducible refine (shown_any _).mono ?_
    rintro e w2 ⟨rfl, k2⟩
    go_wp2_with fail
    go_ret
    exact ⟨rfl, HK.out.tr (K1.out.tr k2)⟩
  | false =>
    obtain ⟨hn20, htk⟩ := hno rfl
    have HN2 := Lib.hid (hno2 rfl)
    clear hno hno2
    by_cases hn : n = 0
    · have hz : cz ≠ 0 := fun e => by
        have h := (chkW_zero (e ▸ HCZ.out)).2.l1
        rw [HLN.out] at h
        omega
      have d1 : decide ((0 : Int) < (n : Int)) = false := decide_eq_false (by omega)
      have d1' : decide (0 < n) = false := decide_eq_false (by omega)
      clear hn htk
      go_wp2_with fail
      have FS : Stab (fun ix wz u => True) := fun ix u wz wz' kz h => trivial
      replace FS := Lib.hid FS
      refine wp_region_each (fun ix uR => match ix with | 0 => uR = .agg #[.int .i64 Z.n, .slice A Z.tr.length ca, .slice B Z.ch.length cb, .slice C n cc] | 1 => uR = .bool false | 2 => uR = .bool false | 3 => uR = .pointer (some ⟨w.heap.size, 3, none⟩) | 4 => uR = .slice C n cc | 5 => uR = .int .i64 (n : Nat) | 6 => uR = .bool false | 7 => uR = .bool false | 8 => uR = undef | 9 => uR = undef | 10 => uR = undef | 11 => uR = undef | 12 => uR = undef | 13 => uR = undef | 14 => uR = undef | 15 => uR = undef | 16 => uR = undef | 17 => uR = undef | 18 => uR = undef | 19 => uR = .bool false | 20 => uR = .bool false | 21 => uR = undef | 22 => uR = undef | 23 => uR = undef | 24 => uR = .bool false | 25 => uR = .bool false | _ => True) (HvW w0 (fun ix wz u => True)) (by kernel_rfl) (by kernel_rfl) (by kernel_rfl) ?_ ?_ ?_
      · exact HvW.start _ _
      · refine ⟨?_, ?_, ?_, ?_, ?_, ?_, ?_, ?_, ?_, ?_, ?_, ?_, ?_, ?_, ?_, ?_, ?_, ?_, ?_, ?_, ?_, ?_, ?_, ?_, ?_, ?_, trivial⟩
        · intro r a w' hf hg hW hr hd K hK
          refine wpOp_of rfl rfl ?_
          have e0 : a.tmps.getD 1 undef = .pointer (some ⟨w.heap.size, 0, none⟩) := hf.evalFree (by kernel_rfl)
          have z0 := hW.kp.cell p0 id
          have z1 := hW.kp.cell p1 id
          have z2 := hW.kp.cell p2 id
          have z3 := hW.kp.cell p3 id
          go_simp
          exact hK _ _ rfl (hW.upd 0 _ trivial)
        · intro r a w' hf hg hW hr hd K hK
          refine wpOp_of rfl rfl ?_
          refine hf.depE hg hd 0 7 (by kernel_rfl) fun u0 e0 g0 h0 => ?_
          replace g0 : u0 = .agg #[.int .i64 Z.n, .slice A Z.tr.length ca, .slice B Z.ch.length cb, .slice C n cc] := g0
          subst g0
          have FX := FA.out _ hW.kp
          go_simp
          with_reducible refine FX.mono ?_
          rintro e w'' ⟨b, rfl, hb, k⟩
          rw [← HFB.out] at hb
          subst hb
          exact hK _ _ rfl ((hW.call FS.out k).upd 1 _ trivial)
        · intro r a w' hf hg hW hr hd K hK
          refine wpOp_of rfl rfl ?_
          refine hf.depE hg hd 1 8 (by kernel_rfl) fun u0 e0 g0 h0 => ?_
          replace g0 : u0 = .bool false := g0
          subst g0
          go_simp
          exact hK _ _ rfl (hW.upd 2 _ trivial)
        · intro r a w' hf hg hW hr hd K hK
          refine hf.depE hg hd 2 9 (by kernel_rfl) fun uG eG gG _ => ?_
          replace gG : uG = .bool false := gG
          subst gG
          refine wpOp_run rfl rfl rfl rfl eG ?_
          have e0 : a.tmps.getD 1 undef = .pointer (some ⟨w.heap.size, 0, none⟩) := hf.evalFree (by kernel_rfl)
          go_simp
          exact hK _ _ rfl (hW.upd 3 _ trivial)
        · intro r a w' hf hg hW hr hd K hK
          refine hf.depE hg hd 2 9 (by kernel_rfl) fun uG eG gG _ => ?_
          replace gG : uG = .bool false := gG
          subst gG
          refine wpOp_run rfl rfl rfl rfl eG ?_
          refine hf.depE hg hd 3 10 (by kernel_rfl) fun u0 e0 g0 h0 => ?_
          replace g0 : u0 = .pointer (some ⟨w.heap.size, 3, none⟩) := g0
          subst g0
          have z0 := hW.kp.cell p3 id
          go_simp
          exact hK _ _ rfl (hW.upd 4 _ trivial)
        · intro r a w' hf hg hW hr hd K hK
          refine hf.depE hg hd 2 9 (by kernel_rfl) fun uG eG gG _ => ?_
          replace gG : uG = .bool false := gG
          subst gG
          refine wpOp_run rfl rfl rfl rfl eG ?_
          refine hf.depE hg hd 4 11 (by kernel_rfl) fun u0 e0 g0 h0 => ?_
          replace g0 : u0 = .slice C n cc := g0
          subst g0
          go_simp
          exact hK _ _ rfl (hW.upd 5 _ trivial)
        · intro r a w' hf hg hW hr hd K hK
          refine hf.depE hg hd 2 9 (by kernel_rfl) fun uG eG gG _ => ?_
          replace gG : uG = .bool false := gG
          subst gG
          refine wpOp_run rfl rfl rfl rfl eG ?_
          refine hf.depE hg hd 5 12 (by kernel_rfl) fun u0 e0 g0 h0 => ?_
          replace g0 : u0 = .int .i64 (n : Nat) := g0
          subst g0
          go_simp
          exact hK _ _ rfl (hW.upd 6 _ trivial)
        · intro r a w' hf hg hW hr hd K hK
          refine hf.depE hg hd 2 9 (by kernel_rfl) fun uG eG gG _ => ?_
          replace gG : uG = .bool false := gG
          subst gG
          refine wpOp_run rfl rfl rfl rfl eG ?_
          refine hf.depE hg hd 6 13 (by kernel_rfl) fun u0 e0 g0 h0 => ?_
          replace g0 : u0 = .bool false := g0
          subst g0
          go_simp
          exact hK _ _ rfl (hW.upd 7 _ trivial)
        · intro r a w' hf hg hW hr hd K hK
          refine hf.depE hg hd 7 14 (by kernel_rfl) fun uG eG gG _ => ?_
          replace gG : uG = .bool false := gG
          subst gG
          refine wpOp_skip rfl rfl rfl rfl eG (by decide) ?_
          exact hK _ _ rfl (hW.upd 8 _ trivial)
        · intro r a w' hf hg hW hr hd K hK
          refine hf.depE hg hd 7 14 (by kernel_rfl) fun uG eG gG _ => ?_
          replace gG : uG = .bool false := gG
          subst gG
          refine wpOp_skip rfl rfl rfl rfl eG (by decide) ?_
          exact hK _ _ rfl (hW.upd 9 _ trivial)
        · intro r a w' hf hg hW hr hd K hK
          refine hf.depE hg hd 7 14 (by kernel_rfl) fun uG eG gG _ => ?_
          replace gG : uG = .bool false := gG
          subst gG
          refine wpOp_skip rfl rfl rfl rfl eG (by decide) ?_
          exact hK _ _ rfl (hW.upd 10 _ trivial)
        · intro r a w' hf hg hW hr hd K hK
          refine hf.depE hg hd 7 14 (by kernel_rfl) fun uG eG gG _ => ?_
          replace gG : uG = .bool false := gG
          subst gG
          refine wpOp_skip rfl rfl rfl rfl eG (by decide) ?_
          exact hK _ _ rfl (hW.upd 11 _ trivial)
        · intro r a w' hf hg hW hr hd K hK
          refine hf.depE hg hd 7 14 (by kernel_rfl) fun uG eG gG _ => ?_
          replace gG : uG = .bool false := gG
          subst gG
          refine wpOp_skip rfl rfl rfl rfl eG (by decide) ?_
          exact hK _ _ rfl (hW.upd 12 _ trivial)
        · intro r a w' hf hg hW hr hd K hK
          refine hf.depE hg hd 7 14 (by kernel_rfl) fun uG eG gG _ => ?_
          replace gG : uG = .bool false := gG
          subst gG
          refine wpOp_skip rfl rfl rfl rfl eG (by decide) ?_
          exact hK _ _ rfl (hW.upd 13 _ trivial)
        · intro r a w' hf hg hW hr hd K hK
          refine hf.depE hg hd 7 14 (by kernel_rfl) fun uG eG gG _ => ?_
          replace gG : uG = .bool false := gG
          subst gG
          refine wpOp_skip rfl rfl rfl rfl eG (by decide) ?_
          exact hK _ _ rfl (hW.upd 14 _ trivial)
        · intro r a w' hf hg hW hr hd K hK
          refine hf.depE hg hd 7 14 (by kernel_rfl) fun uG eG gG _ => ?_
          replace gG : uG = .bool false := gG
          subst gG
          refine wpOp_skip rfl rfl rfl rfl eG (by decide) ?_
          exact hK _ _ rfl (hW.upd 15 _ trivial)
        · intro r a w' hf hg hW hr hd K hK
          refine hf.depE hg hd 7 14 (by kernel_rfl) fun uG eG gG _ => ?_
          replace gG : uG = .bool false := gG
          subst gG
          refine wpOp_skip rfl rfl rfl rfl eG (by decide) ?_
          exact hK _ _ rfl (hW.upd 16 _ trivial)
        · intro r a w' hf hg hW hr hd K hK
          refine hf.depE hg hd 7 14 (by kernel_rfl) fun uG eG gG _ => ?_
          replace gG : uG = .bool false := gG
          subst gG
          refine wpOp_skip rfl rfl rfl rfl eG (by decide) ?_
          exact hK _ _ rfl (hW.upd 17 _ trivial)
        · intro r a w' hf hg hW hr hd K hK
          refine hf.depE hg hd 7 14 (by kernel_rfl) fun uG eG gG _ => ?_
          replace gG : uG = .bool false := gG
          subst gG
          refine wpOp_skip rfl rfl rfl rfl eG (by decide) ?_
          exact hK _ _ rfl (hW.upd 18 _ trivial)
        · intro r a w' hf hg hW hr hd K hK
          refine hf.depE hg hd 2 9 (by kernel_rfl) fun uG eG gG _ => ?_
          replace gG : uG = .bool false := gG
          subst gG
          refine wpOp_run rfl rfl rfl rfl eG ?_
          refine hf.depE hg hd 7 14 (by kernel_rfl) fun u0 e0 g0 h0 => ?_
          replace g0 : u0 = .bool false := g0
          subst g0
          have e0' := get_of_getD e0
          refine hf.depE hg hd 18 25 (by kernel_rfl) fun u1 e1 g1 h1 => ?_
          replace g1 : u1 = undef := g1
          subst g1
          have e1' := get_of_getD e1
          go_simp
          exact hK _ _ rfl (hW.upd 19 _ trivial)
        · intro r a w' hf hg hW hr hd K hK
          refine hf.depE hg hd 2 9 (by kernel_rfl) fun uG eG gG _ => ?_
          replace gG : uG = .bool false := gG
          subst gG
          refine wpOp_run rfl rfl rfl rfl eG ?_
          refine hf.depE hg hd 19 26 (by kernel_rfl) fun u0 e0 g0 h0 => ?_
          replace g0 : u0 = .bool false := g0
          subst g0
          go_simp
          exact hK _ _ rfl (hW.upd 20 _ trivial)
        · intro r a w' hf hg hW hr hd K hK
          refine hf.depE hg hd 20 27 (by kernel_rfl) fun uG eG gG _ => ?_
          replace gG : uG = .bool false := gG
          subst gG
          refine wpOp_skip rfl rfl rfl rfl eG (by decide) ?_
          exact hK _ _ rfl (hW.upd 21 _ trivial)
        · intro r a w' hf hg hW hr hd K hK
          refine hf.depE hg hd 20 27 (by kernel_rfl) fun uG eG gG _ => ?_
          replace gG : uG = .bool false := gG
          subst gG
          refine wpOp_skip rfl rfl rfl rfl eG (by decide) ?_
          exact hK _ _ rfl (hW.upd 22 _ trivial)
        · intro r a w' hf hg hW hr hd K hK
          refine hf.depE hg hd 20 27 (by kernel_rfl) fun uG eG gG _ => ?_
          replace gG : uG = .bool false := gG
          subst gG
          refine wpOp_skip rfl rfl rfl rfl eG (by decide) ?_
          exact hK _ _ rfl (hW.upd 23 _ trivial)
        · intro r a w' hf hg hW hr hd K hK
          refine hf.depE hg hd 2 9 (by kernel_rfl) fun uG eG gG _ => ?_
          replace gG : uG = .bool false := gG
          subst gG
          refine wpOp_run rfl rfl rfl rfl eG ?_
          refine hf.depE hg hd 20 27 (by kernel_rfl) fun u0 e0 g0 h0 => ?_
          replace g0 : u0 = .bool false := g0
          subst g0
          have e0' := get_of_getD e0
          refine hf.depE hg hd 23 30 (by kernel_rfl) fun u1 e1 g1 h1 => ?_
          replace g1 : u1 = undef := g1
          subst g1
          have e1' := get_of_getD e1
          go_simp
          exact hK _ _ rfl (hW.upd 24 _ trivial)
        · intro r a w' hf hg hW hr hd K hK
          refine wpOp_of rfl rfl ?_
          refine hf.depE hg hd 2 9 (by kernel_rfl) fun u0 e0 g0 h0 => ?_
          replace g0 : u0 = .bool false := g0
          subst g0
          have e0' := get_of_getD e0
          refine hf.depE hg hd 24 31 (by kernel_rfl) fun u1 e1 g1 h1 => ?_
          replace g1 : u1 = .bool false := g1
          subst g1
          have e1' := get_of_getD e1
          go_simp
          exact hK _ _ rfl (hW.upd 25 _ trivial)
      intro r' w1 hg hW hr'
      have hkN := hW.kp
      obtain ⟨q25, hq25⟩ : ∃ u, r' 25 = some u := Option.ne_none_iff_exists'.1 (hr' 25 (by decide))
      have hk25 := hg 25 q25 hq25
      replace hk25 : q25 = .bool false := hk25
      subst hk25
      simp only [List.length_cons, List.length_nil, Nat.reduceAdd, List.range_succ, List.range_zero, List.nil_append, List.cons_append, List.map_cons, List.map_nil, putAll, Act.put, List.setIfInBounds_toArray, List.set_cons_succ, List.set_cons_zero, hq25, Option.getD_some]
      clear hg hW hr' FS hq25
      clear d1 d1'
      have K1 := Lib.hid hkN
      have B1 := Lib.hid (hkN.heap HBX.out id)
      clear hkN p0 p1 p2 p3
      obtain ⟨p0, p1, p2, p3⟩ := four_at B1.out
      have LX := Lib.hid (LB.out cz w1 K1.out HCZ.out hz)
      have HZ := Lib.hid hz
      clear hz
      go_wp2_with fail
      with_reducible refine LX.out.mono ?_
      rintro e w2 ⟨rfl, k2⟩
      have K2 := Lib.hid (K1.out.tr k2)
      have B2 := Lib.hid (k2.heap B1.out id)
      clear k2 p0 p1 p2 p3
      obtain ⟨p0, p1, p2, p3⟩ := four_at B2.out
      have RX := Lib.hid (RB.out cz w2 K2.out HCZ.out HZ.out)
      go_wp2_with fail
      with_reducible refine RX.out.mono ?_
      rintro e w3 ⟨rfl, k3⟩
      have K3 := Lib.hid (K2.out.tr k3)
      have SM := Lib.hid (Same_any none none 0 0 0 0 [] [] w3 (Rd.nil _ _) (Rd.nil _ _) (fun x hx => by cases hx) (fun x hx => by cases hx) (by omega) (by omega))
      have de : (cz == cz) = true := by simp
      clear k3 p0 p1 p2 p3
      go_wp2_with fail
      with_reducible refine SM.out.mono ?_
      rintro e w4 ⟨rfl, q4, rfl⟩
      go_wp2_with fail
      with_reducible refine (shown_any _).mono ?_
      rintro e w5 ⟨rfl, k5⟩
      go_wp2_with fail
      go_ret
      exact ⟨rfl, HK.out.tr (K3.out.tr ((Kp.drewN _ _ _).tr k5))⟩
    · have d1 : decide ((0 : Int) < (n : Int)) = true := decide_eq_true (by omega)
      have d1' : decide (0 < n) = true := decide_eq_true (by omega)
      have hn0 : (0 : Int) < (n : Int) := by omega
      have hn0' : 0 < n := by omega
      obtain ⟨s0, hs0⟩ : ∃ s, l[0]? = some s := ⟨_, List.getElem?_eq_getElem (by rw [HLN.out]; omega)⟩
      obtain ⟨v0, bC, oC, hv0, rfl, hbC, y0, y1, is0⟩ := HS.out.at_ hs0
      have hK20 := htk s0 (List.mem_of_getElem? hs0)
      have HK0 := Lib.hid (show keysN l = v0.n by unfold keysN; rw [List.getD_eq_getElem?_getD, hs0]; exact is0.2.1.symm)
      have hkv : v0.n ≤ 20 := by rw [is0.2.1]; exact hK20
      rw [Nat.zero_mul, Nat.add_zero] at y0 y1
      obtain ⟨ch0, A0, KK, c0⟩ := v0
      dsimp only at y0 y1 HK0 hkv
      have HY1 := Lib.hid y1
      have HBC := Lib.hid hbC
      clear hs0 hv0 is0 hn htk hK20
      by_cases hs : 10 < n + KK
      · have d2 : decide ((10 : Int) < (n : Int) + (KK : Int)) = true := decide_eq_true (by omega)
        have ES := Lib.hid (show IntKind.i64.wrap ((n : Int) + (KK : Int)) = (n : Int) + (KK : Int) from wraps_i64 _ (by omega) (by omega))
        by_cases hz : cz = 0
        · subst hz
          clear hs
          have es := ES.out
          go_wp2_with fail
          have FS : Stab (fun ix wz u => True) := fun ix u wz wz' kz h => trivial
          replace FS := Lib.hid FS
          refine wp_region_each (fun ix uR => match ix with | 0 => uR = .agg #[.int .i64 Z.n, .slice A Z.tr.length ca, .slice B Z.ch.length cb, .slice (some ⟨bC, oC, none⟩) n cc] | 1 => uR = .bool false | 2 => uR = .bool false | 3 => uR = .pointer (some ⟨w.heap.size, 3, none⟩) | 4 => uR = .slice (some ⟨bC, oC, none⟩) n cc | 5 => uR = .int .i64 (n : Nat) | 6 => uR = .bool true | 7 => uR = .bool true | 8 => uR = .pointer (some ⟨w.heap.size, 3, none⟩) | 9 => uR = .slice (some ⟨bC, oC, none⟩) n cc | 10 => uR = .int .i64 (n : Nat) | 11 => uR = .pointer (some ⟨w.heap.size, 3, none⟩) | 12 => uR = .slice (some ⟨bC, oC, none⟩) n cc | 13 => uR = .pointer (some ⟨bC, oC, none⟩) | 14 => uR = .pointer (some ⟨bC, oC + 1, none⟩) | 15 => uR = .slice A0 KK c0 | 16 => uR = .int .i64 (KK : Nat) | 17 => uR = .int .i64 ((n : Int) + (KK : Int)) | 18 => uR = .bool true | 19 => uR = .bool true | 20 => uR = .bool true | 21 => uR = .agg #[.int .i64 Z.n, .slice A Z.tr.length ca, .slice B Z.ch.length cb, .slice (some ⟨bC, oC, none⟩) n cc] | 22 => uR = .int .i64 0 | 23 => uR = .bool true | 24 => uR = .bool true | 25 => uR = .bool true | _ => True) (HvW w0 (fun ix wz u => True)) (by kernel_rfl) (by kernel_rfl) (by kernel_rfl) ?_ ?_ ?_
          · exact HvW.start _ _
          · refine ⟨?_, ?_, ?_, ?_, ?_, ?_, ?_, ?_, ?_, ?_, ?_, ?_, ?_, ?_, ?_, ?_, ?_, ?_, ?_, ?_, ?_, ?_, ?_, ?_, ?_, ?_, trivial⟩
            · intro r a w' hf hg hW hr hd K hK
              refine wpOp_of rfl rfl ?_
              have e0 : a.tmps.getD 1 undef = .pointer (some ⟨w.heap.size, 0, none⟩) := hf.evalFree (by kernel_rfl)
              have z0 := hW.kp.cell p0 id
              have z1 := hW.kp.cell p1 id
              have z2 := hW.kp.cell p2 id
              have z3 := hW.kp.cell p3 id
              go_simp
              exact hK _ _ rfl (hW.upd 0 _ trivial)
            · intro r a w' hf hg hW hr hd K hK
              refine wpOp_of rfl rfl ?_
              refine hf.depE hg hd 0 7 (by kernel_rfl) fun u0 e0 g0 h0 => ?_
              replace g0 : u0 = .agg #[.int .i64 Z.n, .slice A Z.tr.length ca, .slice B Z.ch.length cb, .slice (some ⟨bC, oC, none⟩) n cc] := g0
              subst g0
              have FX := FA.out _ hW.kp
              go_simp
              with_reducible refine FX.mono ?_
              rintro e w'' ⟨b, rfl, hb, k⟩
              rw [← HFB.out] at hb
              subst hb
              exact hK _ _ rfl ((hW.call FS.out k).upd 1 _ trivial)
            · intro r a w' hf hg hW hr hd K hK
              refine wpOp_of rfl rfl ?_
              refine hf.depE hg hd 1 8 (by kernel_rfl) fun u0 e0 g0 h0 => ?_
              replace g0 : u0 = .bool false := g0
              subst g0
              go_simp
              exact hK _ _ rfl (hW.upd 2 _ trivial)
            · intro r a w' hf hg hW hr hd K hK
              refine hf.depE hg hd 2 9 (by kernel_rfl) fun uG eG gG _ => ?_
              replace gG : uG = .bool false := gG
              subst gG
              refine wpOp_run rfl rfl rfl rfl eG ?_
              have e0 : a.tmps.getD 1 undef = .pointer (some ⟨w.heap.size, 0, none⟩) := hf.evalFree (by kernel_rfl)
              go_simp
              exact hK _ _ rfl (hW.upd 3 _ trivial)
            · intro r a w' hf hg hW hr hd K hK
              refine hf.depE hg hd 2 9 (by kernel_rfl) fun uG eG gG _ => ?_
              replace gG : uG = .bool false := gG
              subst gG
              refine wpOp_run rfl rfl rfl rfl eG ?_
              refine hf.depE hg hd 3 10 (by kernel_rfl) fun u0 e0 g0 h0 => ?_
              replace g0 : u0 = .pointer (some ⟨w.heap.size, 3, none⟩) := g0
              subst g0
              have z0 := hW.kp.cell p3 id
              go_simp
              exact hK _ _ rfl (hW.upd 4 _ trivial)
            · intro r a w' hf hg hW hr hd K hK
              refine hf.depE hg hd 2 9 (by kernel_rfl) fun uG eG gG _ => ?_
              replace gG : uG = .bool false := gG
              subst gG
              refine wpOp_run rfl rfl rfl rfl eG ?_
              refine hf.depE hg hd 4 11 (by kernel_rfl) fun u0 e0 g0 h0 => ?_
              replace g0 : u0 = .slice (some ⟨bC, oC, none⟩) n cc := g0
              subst g0
              go_simp
              exact hK _ _ rfl (hW.upd 5 _ trivial)
            · intro r a w' hf hg hW hr hd K hK
              refine hf.depE hg hd 2 9 (by kernel_rfl) fun uG eG gG _ => ?_
              replace gG : uG = .bool false := gG
              subst gG
              refine wpOp_run rfl rfl rfl rfl eG ?_
              refine hf.depE hg hd 5 12 (by kernel_rfl) fun u0 e0 g0 h0 => ?_
              replace g0 : u0 = .int .i64 (n : Nat) := g0
              subst g0
              go_simp
              exact hK _ _ rfl (hW.upd 6 _ trivial)
            · intro r a w' hf hg hW hr hd K hK
              refine hf.depE hg hd 2 9 (by kernel_rfl) fun uG eG gG _ => ?_
              replace gG : uG = .bool false := gG
              subst gG
              refine wpOp_run rfl rfl rfl rfl eG ?_
              refine hf.depE hg hd 6 13 (by kernel_rfl) fun u0 e0 g0 h0 => ?_
              replace g0 : u0 = .bool true := g0
              subst g0
              go_simp
              exact hK _ _ rfl (hW.upd 7 _ trivial)
            · intro r a w' hf hg hW hr hd K hK
              refine hf.depE hg hd 7 14 (by kernel_rfl) fun uG eG gG _ => ?_
              replace gG : uG = .bool true := gG
              subst gG
              refine wpOp_run rfl rfl rfl rfl eG ?_
              have e0 : a.tmps.getD 1 undef = .pointer (some ⟨w.heap.size, 0, none⟩) := hf.evalFree (by kernel_rfl)
              go_simp
              exact hK _ _ rfl (hW.upd 8 _ trivial)
            · intro r a w' hf hg hW hr hd K hK
              refine hf.depE hg hd 7 14 (by kernel_rfl) fun uG eG gG _ => ?_
              replace gG : uG = .bool true := gG
              subst gG
              refine wpOp_run rfl rfl rfl rfl eG ?_
              refine hf.depE hg hd 8 15 (by kernel_rfl) fun u0 e0 g0 h0 => ?_
              replace g0 : u0 = .pointer (some ⟨w.heap.size, 3, none⟩) := g0
              subst g0
              have z0 := hW.kp.cell p3 id
              go_simp
              exact hK _ _ rfl (hW.upd 9 _ trivial)
            · intro r a w' hf hg hW hr hd K hK
              refine hf.depE hg hd 7 14 (by kernel_rfl) fun uG eG gG _ => ?_
              replace gG : uG = .bool true := gG
              subst gG
              refine wpOp_run rfl rfl rfl rfl eG ?_
              refine hf.depE hg hd 9 16 (by kernel_rfl) fun u0 e0 g0 h0 => ?_
              replace g0 : u0 = .slice (some ⟨bC, oC, none⟩) n cc := g0
              subst g0
              go_simp
              exact hK _ _ rfl (hW.upd 10 _ trivial)
            · intro r a w' hf hg hW hr hd K hK
              refine hf.depE hg hd 7 14 (by kernel_rfl) fun uG eG gG _ => ?_
              replace gG : uG = .bool true := gG
              subst gG
              refine wpOp_run rfl rfl rfl rfl eG ?_
              have e0 : a.tmps.getD 1 undef = .pointer (some ⟨w.heap.size, 0, none⟩) := hf.evalFree (by kernel_rfl)
              go_simp
              exact hK _ _ rfl (hW.upd 11 _ trivial)
            · intro r a w' hf hg hW hr hd K hK
              refine hf.depE hg hd 7 14 (by kernel_rfl) fun uG eG gG _ => ?_
              replace gG : uG = .bool true := gG
              subst gG
              refine wpOp_run rfl rfl rfl rfl eG ?_
              refine hf.depE hg hd 11 18 (by kernel_rfl) fun u0 e0 g0 h0 => ?_
              replace g0 : u0 = .pointer (some ⟨w.heap.size, 3, none⟩) := g0
              subst g0
              have z0 := hW.kp.cell p3 id
              go_simp
              exact hK _ _ rfl (hW.upd 12 _ trivial)
            · intro r a w' hf hg hW hr hd K hK
              refine hf.depE hg hd 7 14 (by kernel_rfl) fun uG eG gG _ => ?_
              replace gG : uG = .bool true := gG
              subst gG
              refine wpOp_run rfl rfl rfl rfl eG ?_
              refine hf.depE hg hd 12 19 (by kernel_rfl) fun u0 e0 g0 h0 => ?_
              replace g0 : u0 = .slice (some ⟨bC, oC, none⟩) n cc := g0
              subst g0
              go_simp
              exact hK _ _ rfl (hW.upd 13 _ trivial)
            · intro r a w' hf hg hW hr hd K hK
              refine hf.depE hg hd 7 14 (by kernel_rfl) fun uG eG gG _ => ?_
              replace gG : uG = .bool true := gG
              subst gG
              refine wpOp_run rfl rfl rfl rfl eG ?_
              refine hf.depE hg hd 13 20 (by kernel_rfl) fun u0 e0 g0 h0 => ?_
              replace g0 : u0 = .pointer (some ⟨bC, oC, none⟩) := g0
              subst g0
              go_simp
              exact hK _ _ rfl (hW.upd 14 _ trivial)
            · intro r a w' hf hg hW hr hd K hK
              refine hf.depE hg hd 7 14 (by kernel_rfl) fun uG eG gG _ => ?_
              replace gG : uG = .bool true := gG
              subst gG
              refine wpOp_run rfl rfl rfl rfl eG ?_
              refine hf.depE hg hd 14 21 (by kernel_rfl) fun u0 e0 g0 h0 => ?_
              replace g0 : u0 = .pointer (some ⟨bC, oC + 1, none⟩) := g0
              subst g0
              have z0 := hW.kp.cell y1 id
              go_simp
              exact hK _ _ rfl (hW.upd 15 _ trivial)
            · intro r a w' hf hg hW hr hd K hK
              refine hf.depE hg hd 7 14 (by kernel_rfl) fun uG eG gG _ => ?_
              replace gG : uG = .bool true := gG
              subst gG
              refine wpOp_run rfl rfl rfl rfl eG ?_
              refine hf.depE hg hd 15 22 (by kernel_rfl) fun u0 e0 g0 h0 => ?_
              replace g0 : u0 = .slice A0 KK c0 := g0
              subst g0
              go_simp
              exact hK _ _ rfl (hW.upd 16 _ trivial)
            · intro r a w' hf hg hW hr hd K hK
              refine hf.depE hg hd 7 14 (by kernel_rfl) fun uG eG gG _ => ?_
              replace gG : uG = .bool true := gG
              subst gG
              refine wpOp_run rfl rfl rfl rfl eG ?_
              refine hf.depE hg hd 10 17 (by kernel_rfl) fun u0 e0 g0 h0 => ?_
              replace g0 : u0 = .int .i64 (n : Nat) := g0
              subst g0
              refine hf.depE hg hd 16 23 (by kernel_rfl) fun u1 e1 g1 h1 => ?_
              replace g1 : u1 = .int .i64 (KK : Nat) := g1
              subst g1
              go_simp
              exact hK _ _ rfl (hW.upd 17 _ trivial)
            · intro r a w' hf hg hW hr hd K hK
              refine hf.depE hg hd 7 14 (by kernel_rfl) fun uG eG gG _ => ?_
              replace gG : uG = .bool true := gG
              subst gG
              refine wpOp_run rfl rfl rfl rfl eG ?_
              refine hf.depE hg hd 17 24 (by kernel_rfl) fun u0 e0 g0 h0 => ?_
              replace g0 : u0 = .int .i64 ((n : Int) + (KK : Int)) := g0
              subst g0
              go_simp
              exact hK _ _ rfl (hW.upd 18 _ trivial)
            · intro r a w' hf hg hW hr hd K hK
              refine hf.depE hg hd 2 9 (by kernel_rfl) fun uG eG gG _ => ?_
              replace gG : uG = .bool false := gG
              subst gG
              refine wpOp_run rfl rfl rfl rfl eG ?_
              refine hf.depE hg hd 7 14 (by kernel_rfl) fun u0 e0 g0 h0 => ?_
              replace g0 : u0 = .bool true := g0
              subst g0
              have e0' := get_of_getD e0
              refine hf.depE hg hd 18 25 (by kernel_rfl) fun u1 e1 g1 h1 => ?_
              replace g1 : u1 = .bool true := g1
              subst g1
              have e1' := get_of_getD e1
              go_simp
              exact hK _ _ rfl (hW.upd 19 _ trivial)
            · intro r a w' hf hg hW hr hd K hK
              refine hf.depE hg hd 2 9 (by kernel_rfl) fun uG eG gG _ => ?_
              replace gG : uG = .bool false := gG
              subst gG
              refine wpOp_run rfl rfl rfl rfl eG ?_
              refine hf.depE hg hd 19 26 (by kernel_rfl) fun u0 e0 g0 h0 => ?_
              replace g0 : u0 = .bool true := g0
              subst g0
              go_simp
              exact hK _ _ rfl (hW.upd 20 _ trivial)
            · intro r a w' hf hg hW hr hd K hK
              refine hf.depE hg hd 20 27 (by kernel_rfl) fun uG eG gG _ => ?_
              replace gG : uG = .bool true := gG
              subst gG
              refine wpOp_run rfl rfl rfl rfl eG ?_
              have e0 : a.tmps.getD 1 undef = .pointer (some ⟨w.heap.size, 0, none⟩) := hf.evalFree (by kernel_rfl)
              have z0 := hW.kp.cell p0 id
              have z1 := hW.kp.cell p1 id
              have z2 := hW.kp.cell p2 id
              have z3 := hW.kp.cell p3 id
              go_simp
              exact hK _ _ rfl (hW.upd 21 _ trivial)
            · intro r a w' hf hg hW hr hd K hK
              refine hf.depE hg hd 20 27 (by kernel_rfl) fun uG eG gG _ => ?_
              replace gG : uG = .bool true := gG
              subst gG
              refine wpOp_run rfl rfl rfl rfl eG ?_
              refine hf.depE hg hd 21 28 (by kernel_rfl) fun u0 e0 g0 h0 => ?_
              replace g0 : u0 = .agg #[.int .i64 Z.n, .slice A Z.tr.length ca, .slice B Z.ch.length cb, .slice (some ⟨bC, oC, none⟩) n cc] := g0
              subst g0
              have RX := RC.out _ hW.kp
              go_simp
              with_reducible refine RX.mono ?_
              rintro e w'' ⟨c3, rfl, hc3, k⟩
              obtain rfl := hc3.uniq HCZ.out
              exact hK _ _ rfl ((hW.call FS.out k).upd 22 _ trivial)
            · intro r a w' hf hg hW hr hd K hK
              refine hf.depE hg hd 20 27 (by kernel_rfl) fun uG eG gG _ => ?_
              replace gG : uG = .bool true := gG
              subst gG
              refine wpOp_run rfl rfl rfl rfl eG ?_
              refine hf.depE hg hd 22 29 (by kernel_rfl) fun u0 e0 g0 h0 => ?_
              replace g0 : u0 = .int .i64 0 := g0
              subst g0
              go_simp
              exact hK _ _ rfl (hW.upd 23 _ trivial)
            · intro r a w' hf hg hW hr hd K hK
              refine hf.depE hg hd 2 9 (by kernel_rfl) fun uG eG gG _ => ?_
              replace gG : uG = .bool false := gG
              subst gG
              refine wpOp_run rfl rfl rfl rfl eG ?_
              refine hf.depE hg hd 20 27 (by kernel_rfl) fun u0 e0 g0 h0 => ?_
              replace g0 : u0 = .bool true := g0
              subst g0
              have e0' := get_of_getD e0
              refine hf.depE hg hd 23 30 (by kernel_rfl) fun u1 e1 g1 h1 => ?_
              replace g1 : u1 = .bool true := g1
              subst g1
              have e1' := get_of_getD e1
              go_simp
              exact hK _ _ rfl (hW.upd 24 _ trivial)
            · intro r a w' hf hg hW hr hd K hK
              refine wpOp_of rfl rfl ?_
              refine hf.depE hg hd 2 9 (by kernel_rfl) fun u0 e0 g0 h0 => ?_
              replace g0 : u0 = .bool false := g0
              subst g0
              have e0' := get_of_getD e0
              refine hf.depE hg hd 24 31 (by kernel_rfl) fun u1 e1 g1 h1 => ?_
              replace g1 : u1 = .bool true := g1
              subst g1
              have e1' := get_of_getD e1
              go_simp
              exact hK _ _ rfl (hW.upd 25 _ trivial)
          intro r' w1 hg hW hr'
          have hkN := hW.kp
          obtain ⟨q25, hq25⟩ : ∃ u, r' 25 = some u := Option.ne_none_iff_exists'.1 (hr' 25 (by decide))
          have hk25 := hg 25 q25 hq25
          replace hk25 : q25 = .bool true := hk25
          subst hk25
          simp only [List.length_cons, List.length_nil, Nat.reduceAdd, List.range_succ, List.range_zero, List.nil_append, List.cons_append, List.map_cons, List.map_nil, putAll, Act.put, List.setIfInBounds_toArray, List.set_cons_succ, List.set_cons_zero, hq25, Option.getD_some]
          clear hg hW hr' FS hq25
          have K1 := Lib.hid hkN
          clear hkN p0 p1 p2 p3 y0 y1 es d1 d1' d2
          go_wp2_with fail
          with_reducible refine (shown_any _).mono ?_
          rintro e w2 ⟨rfl, k2⟩
          go_wp2_with fail
          go_ret
          exact ⟨rfl, HK.out.tr (K1.out.tr k2)⟩
        · have dz : (cz == 0) = false := by rw [beq_eq_false_iff_ne]; exact hz
          clear hs
          have es := ES.out
          go_wp2_with fail
          have FS : Stab (fun ix wz u => True) := fun ix u wz wz' kz h => trivial
          replace FS := Lib.hid FS
          refine wp_region_each (fun ix uR => match ix with | 0 => uR = .agg #[.int .i64 Z.n, .slice A Z.tr.length ca, .slice B Z.ch.length cb, .slice (some ⟨bC, oC, none⟩) n cc] | 1 => uR = .bool false | 2 => uR = .bool false | 3 => uR = .pointer (some ⟨w.heap.size, 3, none⟩) | 4 => uR = .slice (some ⟨bC, oC, none⟩) n cc | 5 => uR = .int .i64 (n : Nat) | 6 => uR = .bool true | 7 => uR = .bool true | 8 => uR = .pointer (some ⟨w.heap.size, 3, none⟩) | 9 => uR = .slice (some ⟨bC, oC, none⟩) n cc | 10 => uR = .int .i64 (n : Nat) | 11 => uR = .pointer (some ⟨w.heap.size, 3, none⟩) | 12 => uR = .slice (some ⟨bC, oC, none⟩) n cc | 13 => uR = .pointer (some ⟨bC, oC, none⟩) | 14 => uR = .pointer (some ⟨bC, oC + 1, none⟩) | 15 => uR = .slice A0 KK c0 | 16 => uR = .int .i64 (KK : Nat) | 17 => uR = .int .i64 ((n : Int) + (KK : Int)) | 18 => uR = .bool true | 19 => uR = .bool true | 20 => uR = .bool true | 21 => uR = .agg #[.int .i64 Z.n, .slice A Z.tr.length ca, .slice B Z.ch.length cb, .slice (some ⟨bC, oC, none⟩) n cc] | 22 => uR = .int .i64 cz | 23 => uR = .bool false | 24 => uR = .bool false | 25 => uR = .bool false | _ => True) (HvW w0 (fun ix wz u => True)) (by kernel_rfl) (by kernel_rfl) (by kernel_rfl) ?_ ?_ ?_
          · exact HvW.start _ _
          · refine ⟨?_, ?_, ?_, ?_, ?_, ?_, ?_, ?_, ?_, ?_, ?_, ?_, ?_, ?_, ?_, ?_, ?_, ?_, ?_, ?_, ?_, ?_, ?_, ?_, ?_, ?_, trivial⟩
            · intro r a w' hf hg hW hr hd K hK
              refine wpOp_of rfl rfl ?_
              have e0 : a.tmps.getD 1 undef = .pointer (some ⟨w.heap.size, 0, none⟩) := hf.evalFree (by kernel_rfl)
              have z0 := hW.kp.cell p0 id
              have z1 := hW.kp.cell p1 id
              have z2 := hW.kp.cell p2 id
              have z3 := hW.kp.cell p3 id
              go_simp
              exact hK _ _ rfl (hW.upd 0 _ trivial)
            · intro r a w' hf hg hW hr hd K hK
              refine wpOp_of rfl rfl ?_
              refine hf.depE hg hd 0 7 (by kernel_rfl) fun u0 e0 g0 h0 => ?_
              replace g0 : u0 = .agg #[.int .i64 Z.n, .slice A Z.tr.length ca, .slice B Z.ch.length cb, .slice (some ⟨bC, oC, none⟩) n cc] := g0
              subst g0
              have FX := FA.out _ hW.kp
              go_simp
              with_reducible refine FX.mono ?_
              rintro e w'' ⟨b, rfl, hb, k⟩
              rw [← HFB.out] at hb
              subst hb
              exact hK _ _ rfl ((hW.call FS.out k).upd 1 _ trivial)
            · intro r a w' hf hg hW hr hd K hK
              refine wpOp_of rfl rfl ?_
              refine hf.depE hg hd 1 8 (by kernel_rfl) fun u0 e0 g0 h0 => ?_
              replace g0 : u0 = .bool false := g0
              subst g0
              go_simp
              exact hK _ _ rfl (hW.upd 2 _ trivial)
            · intro r a w' hf hg hW hr hd K hK
              refine hf.depE hg hd 2 9 (by kernel_rfl) fun uG eG gG _ => ?_
              replace gG : uG = .bool false := gG
              subst gG
              refine wpOp_run rfl rfl rfl rfl eG ?_
              have e0 : a.tmps.getD 1 undef = .pointer (some ⟨w.heap.size, 0, none⟩) := hf.evalFree (by kernel_rfl)
              go_simp
              exact hK _ _ rfl (hW.upd 3 _ trivial)
            · intro r a w' hf hg hW hr hd K hK
              refine hf.depE hg hd 2 9 (by kernel_rfl) fun uG eG gG _ => ?_
              replace gG : uG = .bool false := gG
              subst gG
              refine wpOp_run rfl rfl rfl rfl eG ?_
              refine hf.depE hg hd 3 10 (by kernel_rfl) fun u0 e0 g0 h0 => ?_
              replace g0 : u0 = .pointer (some ⟨w.heap.size, 3, none⟩) := g0
              subst g0
              have z0 := hW.kp.cell p3 id
              go_simp
              exact hK _ _ rfl (hW.upd 4 _ trivial)
            · intro r a w' hf hg hW hr hd K hK
              refine hf.depE hg hd 2 9 (by kernel_rfl) fun uG eG gG _ => ?_
              replace gG : uG = .bool false := gG
              subst gG
              refine wpOp_run rfl rfl rfl rfl eG ?_
              refine hf.depE hg hd 4 11 (by kernel_rfl) fun u0 e0 g0 h0 => ?_
              replace g0 : u0 = .slice (some ⟨bC, oC, none⟩) n cc := g0
              subst g0
              go_simp
              exact hK _ _ rfl (hW.upd 5 _ trivial)
            · intro r a w' hf hg hW hr hd K hK
              refine hf.depE hg hd 2 9 (by kernel_rfl) fun uG eG gG _ => ?_
              replace gG : uG = .bool false := gG
              subst gG
              refine wpOp_run rfl rfl rfl rfl eG ?_
              refine hf.depE hg hd 5 12 (by kernel_rfl) fun u0 e0 g0 h0 => ?_
              replace g0 : u0 = .int .i64 (n : Nat) := g0
              subst g0
              go_simp
              exact hK _ _ rfl (hW.upd 6 _ trivial)
            · intro r a w' hf hg hW hr hd K hK
              refine hf.depE hg hd 2 9 (by kernel_rfl) fun uG eG gG _ => ?_
              replace gG : uG = .bool false := gG
              subst gG
              refine wpOp_run rfl rfl rfl rfl eG ?_
              refine hf.depE hg hd 6 13 (by kernel_rfl) fun u0 e0 g0 h0 => ?_
              replace g0 : u0 = .bool true := g0
              subst g0
              go_simp
              exact hK _ _ rfl (hW.upd 7 _ trivial)
            · intro r a w' hf hg hW hr hd K hK
              refine hf.depE hg hd 7 14 (by kernel_rfl) fun uG eG gG _ => ?_
              replace gG : uG = .bool true := gG
              subst gG
              refine wpOp_run rfl rfl rfl rfl eG ?_
              have e0 : a.tmps.getD 1 undef = .pointer (some ⟨w.heap.size, 0, none⟩) := hf.evalFree (by kernel_rfl)
              go_simp
              exact hK _ _ rfl (hW.upd 8 _ trivial)
            · intro r a w' hf hg hW hr hd K hK
              refine hf.depE hg hd 7 14 (by kernel_rfl) fun uG eG gG _ => ?_
              replace gG : uG = .bool true := gG
              subst gG
              refine wpOp_run rfl rfl rfl rfl eG ?_
              refine hf.depE hg hd 8 15 (by kernel_rfl) fun u0 e0 g0 h0 => ?_
              replace g0 : u0 = .pointer (some ⟨w.heap.size, 3, none⟩) := g0
              subst g0
              have z0 := hW.kp.cell p3 id
              go_simp
              exact hK _ _ rfl (hW.upd 9 _ trivial)
            · intro r a w' hf hg hW hr hd K hK
              refine hf.depE hg hd 7 14 (by kernel_rfl) fun uG eG gG _ => ?_
              replace gG : uG = .bool true := gG
              subst gG
              refine wpOp_run rfl rfl rfl rfl eG ?_
              refine hf.depE hg hd 9 16 (by kernel_rfl) fun u0 e0 g0 h0 => ?_
              replace g0 : u0 = .slice (some ⟨bC, oC, none⟩) n cc := g0
              subst g0
              go_simp
              exact hK _ _ rfl (hW.upd 10 _ trivial)
            · intro r a w' hf hg hW hr hd K hK
              refine hf.depE hg hd 7 14 (by kernel_rfl) fun uG eG gG _ => ?_
              replace gG : uG = .bool true := gG
              subst gG
              refine wpOp_run rfl rfl rfl rfl eG ?_
              have e0 : a.tmps.getD 1 undef = .pointer (some ⟨w.heap.size, 0, none⟩) := hf.evalFree (by kernel_rfl)
              go_simp
              exact hK _ _ rfl (hW.upd 11 _ trivial)
            · intro r a w' hf hg hW hr hd K hK
              refine hf.depE hg hd 7 14 (by kernel_rfl) fun uG eG gG _ => ?_
              replace gG : uG = .bool true := gG
              subst gG
              refine wpOp_run rfl rfl rfl rfl eG ?_
              refine hf.depE hg hd 11 18 (by kernel_rfl) fun u0 e0 g0 h0 => ?_
              replace g0 : u0 = .pointer (some ⟨w.heap.size, 3, none⟩) := g0
              subst g0
              have z0 := hW.kp.cell p3 id
              go_simp
              exact hK _ _ rfl (hW.upd 12 _ trivial)
            · intro r a w' hf hg hW hr hd K hK
              refine hf.depE hg hd 7 14 (by kernel_rfl) fun uG eG gG _ => ?_
              replace gG : uG = .bool true := gG
              subst gG
              refine wpOp_run rfl rfl rfl rfl eG ?_
              refine hf.depE hg hd 12 19 (by kernel_rfl) fun u0 e0 g0 h0 => ?_
              replace g0 : u0 = .slice (some ⟨bC, oC, none⟩) n cc := g0
              subst g0
              go_simp
              exact hK _ _ rfl (hW.upd 13 _ trivial)
            · intro r a w' hf hg hW hr hd K hK
              refine hf.depE hg hd 7 14 (by kernel_rfl) fun uG eG gG _ => ?_
              replace gG : uG = .bool true := gG
              subst gG
              refine wpOp_run rfl rfl rfl rfl eG ?_
              refine hf.depE hg hd 13 20 (by kernel_rfl) fun u0 e0 g0 h0 => ?_
              replace g0 : u0 = .pointer (some ⟨bC, oC, none⟩) := g0
              subst g0
              go_simp
              exact hK _ _ rfl (hW.upd 14 _ trivial)
            · intro r a w' hf hg hW hr hd K hK
              refine hf.depE hg hd 7 14 (by kernel_rfl) fun uG eG gG _ => ?_
              replace gG : uG = .bool true := gG
              subst gG
              refine wpOp_run rfl rfl rfl rfl eG ?_
              refine hf.depE hg hd 14 21 (by kernel_rfl) fun u0 e0 g0 h0 => ?_
              replace g0 : u0 = .pointer (some ⟨bC, oC + 1, none⟩) := g0
              subst g0
              have z0 := hW.kp.cell y1 id
              go_simp
              exact hK _ _ rfl (hW.upd 15 _ trivial)
            · intro r a w' hf hg hW hr hd K hK
              refine hf.depE hg hd 7 14 (by kernel_rfl) fun uG eG gG _ => ?_
              replace gG : uG = .bool true := gG
              subst gG
              refine wpOp_run rfl rfl rfl rfl eG ?_
              refine hf.depE hg hd 15 22 (by kernel_rfl) fun u0 e0 g0 h0 => ?_
              replace g0 : u0 = .slice A0 KK c0 := g0
              subst g0
              go_simp
              exact hK _ _ rfl (hW.upd 16 _ trivial)
            · intro r a w' hf hg hW hr hd K hK
              refine hf.depE hg hd 7 14 (by kernel_rfl) fun uG eG gG _ => ?_
              replace gG : uG = .bool true := gG
              subst gG
              refine wpOp_run rfl rfl rfl rfl eG ?_
              refine hf.depE hg hd 10 17 (by kernel_rfl) fun u0 e0 g0 h0 => ?_
              replace g0 : u0 = .int .i64 (n : Nat) := g0
              subst g0
              refine hf.depE hg hd 16 23 (by kernel_rfl) fun u1 e1 g1 h1 => ?_
              replace g1 : u1 = .int .i64 (KK : Nat) := g1
              subst g1
              go_simp
              exact hK _ _ rfl (hW.upd 17 _ trivial)
            · intro r a w' hf hg hW hr hd K hK
              refine hf.depE hg hd 7 14 (by kernel_rfl) fun uG eG gG _ => ?_
              replace gG : uG = .bool true := gG
              subst gG
              refine wpOp_run rfl rfl rfl rfl eG ?_
              refine hf.depE hg hd 17 24 (by kernel_rfl) fun u0 e0 g0 h0 => ?_
              replace g0 : u0 = .int .i64 ((n : Int) + (KK : Int)) := g0
              subst g0
              go_simp
              exact hK _ _ rfl (hW.upd 18 _ trivial)
            · intro r a w' hf hg hW hr hd K hK
              refine hf.depE hg hd 2 9 (by kernel_rfl) fun uG eG gG _ => ?_
              replace gG : uG = .bool false := gG
              subst gG
              refine wpOp_run rfl rfl rfl rfl eG ?_
              refine hf.depE hg hd 7 14 (by kernel_rfl) fun u0 e0 g0 h0 => ?_
              replace g0 : u0 = .bool true := g0
              subst g0
              have e0' := get_of_getD e0
              refine hf.depE hg hd 18 25 (by kernel_rfl) fun u1 e1 g1 h1 => ?_
              replace g1 : u1 = .bool true := g1
              subst g1
              have e1' := get_of_getD e1
              go_simp
              exact hK _ _ rfl (hW.upd 19 _ trivial)
            · intro r a w' hf hg hW hr hd K hK
              refine hf.depE hg hd 2 9 (by kernel_rfl) fun uG eG gG _ => ?_
              replace gG : uG = .bool false := gG
              subst gG
              refine wpOp_run rfl rfl rfl rfl eG ?_
              refine hf.depE hg hd 19 26 (by kernel_rfl) fun u0 e0 g0 h0 => ?_
              replace g0 : u0 = .bool true := g0
              subst g0
              go_simp
              exact hK _ _ rfl (hW.upd 20 _ trivial)
            · intro r a w' hf hg hW hr hd K hK
              refine hf.depE hg hd 20 27 (by kernel_rfl) fun uG eG gG _ => ?_
              replace gG : uG = .bool true := gG
              subst gG
              refine wpOp_run rfl rfl rfl rfl eG ?_
              have e0 : a.tmps.getD 1 undef = .pointer (some ⟨w.heap.size, 0, none⟩) := hf.evalFree (by kernel_rfl)
              have z0 := hW.kp.cell p0 id
              have z1 := hW.kp.cell p1 id
              have z2 := hW.kp.cell p2 id
              have z3 := hW.kp.cell p3 id
              go_simp
              exact hK _ _ rfl (hW.upd 21 _ trivial)
            · intro r a w' hf hg hW hr hd K hK
              refine hf.depE hg hd 20 27 (by kernel_rfl) fun uG eG gG _ => ?_
              replace gG : uG = .bool true := gG
              subst gG
              refine wpOp_run rfl rfl rfl rfl eG ?_
              refine hf.depE hg hd 21 28 (by kernel_rfl) fun u0 e0 g0 h0 => ?_
              replace g0 : u0 = .agg #[.int .i64 Z.n, .slice A Z.tr.length ca, .slice B Z.ch.length cb, .slice (some ⟨bC, oC, none⟩) n cc] := g0
              subst g0
              have RX := RC.out _ hW.kp
              go_simp
              with_reducible refine RX.mono ?_
              rintro e w'' ⟨c3, rfl, hc3, k⟩
              obtain rfl := hc3.uniq HCZ.out
              exact hK _ _ rfl ((hW.call FS.out k).upd 22 _ trivial)
            · intro r a w' hf hg hW hr hd K hK
              refine hf.depE hg hd 20 27 (by kernel_rfl) fun uG eG gG _ => ?_
              replace gG : uG = .bool true := gG
              subst gG
              refine wpOp_run rfl rfl rfl rfl eG ?_
              refine hf.depE hg hd 22 29 (by kernel_rfl) fun u0 e0 g0 h0 => ?_
              replace g0 : u0 = .int .i64 cz := g0
              subst g0
              go_simp
              exact hK _ _ rfl (hW.upd 23 _ trivial)
            · intro r a w' hf hg hW hr hd K hK
              refine hf.depE hg hd 2 9 (by kernel_rfl) fun uG eG gG _ => ?_
              replace gG : uG = .bool false := gG
              subst gG
              refine wpOp_run rfl rfl rfl rfl eG ?_
              refine hf.depE hg hd 20 27 (by kernel_rfl) fun u0 e0 g0 h0 => ?_
              replace g0 : u0 = .bool true := g0
              subst g0
              have e0' := get_of_getD e0
              refine hf.depE hg hd 23 30 (by kernel_rfl) fun u1 e1 g1 h1 => ?_
              replace g1 : u1 = .bool false := g1
              subst g1
              have e1' := get_of_getD e1
              go_simp
              exact hK _ _ rfl (hW.upd 24 _ trivial)
            · intro r a w' hf hg hW hr hd K hK
              refine wpOp_of rfl rfl ?_
              refine hf.depE hg hd 2 9 (by kernel_rfl) fun u0 e0 g0 h0 => ?_
              replace g0 : u0 = .bool false := g0
              subst g0
              have e0' := get_of_getD e0
              refine hf.depE hg hd 24 31 (by kernel_rfl) fun u1 e1 g1 h1 => ?_
              replace g1 : u1 = .bool false := g1
              subst g1
              have e1' := get_of_getD e1
              go_simp
              exact hK _ _ rfl (hW.upd 25 _ trivial)
          intro r' w1 hg hW hr'
          have hkN := hW.kp
          obtain ⟨q25, hq25⟩ : ∃ u, r' 25 = some u := Option.ne_none_iff_exists'.1 (hr' 25 (by decide))
          have hk25 := hg 25 q25 hq25
          replace hk25 : q25 = .bool false := hk25
          subst hk25
          simp only [List.length_cons, List.length_nil, Nat.reduceAdd, List.range_succ, List.range_zero, List.nil_append, List.cons_append, List.map_cons, List.map_nil, putAll, Act.put, List.setIfInBounds_toArray, List.set_cons_succ, List.set_cons_zero, hq25, Option.getD_some]
          clear hg hW hr' FS hq25
          clear y0 y1 es d1 d1' d2 dz
          have K1 := Lib.hid hkN
          have B1 := Lib.hid (hkN.heap HBX.out id)
          clear hkN p0 p1 p2 p3
          obtain ⟨p0, p1, p2, p3⟩ := four_at B1.out
          have LX := Lib.hid (LB.out cz w1 K1.out HCZ.out hz)
          have HZ := Lib.hid hz
          clear hz
          go_wp2_with fail
          with_reducible refine LX.out.mono ?_
          rintro e w2 ⟨rfl, k2⟩
          have K2 := Lib.hid (K1.out.tr k2)
          have B2 := Lib.hid (k2.heap B1.out id)
          clear k2 p0 p1 p2 p3
          obtain ⟨p0, p1, p2, p3⟩ := four_at B2.out
          have RX := Lib.hid (RB.out cz w2 K2.out HCZ.out HZ.out)
          go_wp2_with fail
          with_reducible refine RX.out.mono ?_
          rintro e w3 ⟨rfl, k3⟩
          have K3 := Lib.hid (K2.out.tr k3)
          have SM := Lib.hid (Same_any none none 0 0 0 0 [] [] w3 (Rd.nil _ _) (Rd.nil _ _) (fun x hx => by cases hx) (fun x hx => by cases hx) (by omega) (by omega))
          have de : (cz == cz) = true := by simp
          clear k3 p0 p1 p2 p3
          go_wp2_with fail
          with_reducible refine SM.out.mono ?_
          rintro e w4 ⟨rfl, q4, rfl⟩
          go_wp2_with fail
          with_reducible refine (shown_any _).mono ?_
          rintro e w5 ⟨rfl, k5⟩
          go_wp2_with fail
          go_ret
          exact ⟨rfl, HK.out.tr (K3.out.tr ((Kp.drewN _ _ _).tr k5))⟩
      · have d2 : decide ((10 : Int) < (n : Int) + (KK : Int)) = false := decide_eq_false (by omega)
        have ES := Lib.hid (show IntKind.i64.wrap ((n : Int) + (KK : Int)) = (n : Int) + (KK : Int) from wraps_i64 _ (by omega) (by omega))
        by_cases hz : cz = 0
        · subst hz
          obtain ⟨N, hN, rfl, hok⟩ := chk_net HCZ.out
          have h7 : N.n ≤ 7 := by
            have h := HN2.out.1
            have := hN.n2
            rw [show (nz N).n = (N.n : Int) from rfl] at h
            omega
          have LO := fun W (k : Kp No w0 W) => (Least_ok N hN l vs A B (some ⟨bC, oC, none⟩) ca cb n cc W (rdnet_z (HR.out.no k)) (HS.out.no k) HCZ.out).mono fun e w' h => lea_pr h
          have RO := fun W (k : Kp No w0 W) => (rLeast_ok N hN h7 l vs A B (some ⟨bC, oC, none⟩) ca cb n cc W (rdnet_z (HR.out.no k)) (HS.out.no k) HCZ.out (by rw [HLN.out, HK0.out]; omega)).mono fun e w' h => lea_pr h
          have HL8 := Lib.hid (show l.length ≤ 8 ∧ keysN l ≤ 8 from ⟨hok.l8, hok.k8⟩)
          unfold windV at LO RO
          replace LO := Lib.hid LO
          replace RO := Lib.hid RO
          clear hs hN hok h7
          have es := ES.out
          go_wp2_with fail
          have FS : Stab (fun ix wz u => True) := fun ix u wz wz' kz h => trivial
          replace FS := Lib.hid FS
          refine wp_region_each (fun ix uR => match ix with | 0 => uR = .agg #[.int .i64 (nz N).n, .slice A (nz N).tr.length ca, .slice B (nz N).ch.length cb, .slice (some ⟨bC, oC, none⟩) n cc] | 1 => uR = .bool false | 2 => uR = .bool false | 3 => uR = .pointer (some ⟨w.heap.size, 3, none⟩) | 4 => uR = .slice (some ⟨bC, oC, none⟩) n cc | 5 => uR = .int .i64 (n : Nat) | 6 => uR = .bool true | 7 => uR = .bool true | 8 => uR = .pointer (some ⟨w.heap.size, 3, none⟩) | 9 => uR = .slice (some ⟨bC, oC, none⟩) n cc | 10 => uR = .int .i64 (n : Nat) | 11 => uR = .pointer (some ⟨w.heap.size, 3, none⟩) | 12 => uR = .slice (some ⟨bC, oC, none⟩) n cc | 13 => uR = .pointer (some ⟨bC, oC, none⟩) | 14 => uR = .pointer (some ⟨bC, oC + 1, none⟩) | 15 => uR = .slice A0 KK c0 | 16 => uR = .int .i64 (KK : Nat) | 17 => uR = .int .i64 ((n : Int) + (KK : Int)) | 18 => uR = .bool false | 19 => uR = .bool false | 20 => uR = .bool false | 21 => uR = undef | 22 => uR = undef | 23 => uR = undef | 24 => uR = .bool false | 25 => uR = .bool false | _ => True) (HvW w0 (fun ix wz u => True)) (by kernel_rfl) (by kernel_rfl) (by kernel_rfl) ?_ ?_ ?_
          · exact HvW.start _ _
          · refine ⟨?_, ?_, ?_, ?_, ?_, ?_, ?_, ?_, ?_, ?_, ?_, ?_, ?_, ?_, ?_, ?_, ?_, ?_, ?_, ?_, ?_, ?_, ?_, ?_, ?_, ?_, trivial⟩
            · intro r a w' hf hg hW hr hd K hK
              refine wpOp_of rfl rfl ?_
              have e0 : a.tmps.getD 1 undef = .pointer (some ⟨w.heap.size, 0, none⟩) := hf.evalFree (by kernel_rfl)
              have z0 := hW.kp.cell p0 id
              have z1 := hW.kp.cell p1 id
              have z2 := hW.kp.cell p2 id
              have z3 := hW.kp.cell p3 id
              go_simp
              exact hK _ _ rfl (hW.upd 0 _ trivial)
            · intro r a w' hf hg hW hr hd K hK
              refine wpOp_of rfl rfl ?_
              refine hf.depE hg hd 0 7 (by kernel_rfl) fun u0 e0 g0 h0 => ?_
              replace g0 : u0 = .agg #[.int .i64 (nz N).n, .slice A (nz N).tr.length ca, .slice B (nz N).ch.length cb, .slice (some ⟨bC, oC, none⟩) n cc] := g0
              subst g0
              have FX := FA.out _ hW.kp
              go_simp
              with_reducible refine FX.mono ?_
              rintro e w'' ⟨b, rfl, hb, k⟩
              rw [← HFB.out] at hb
              subst hb
              exact hK _ _ rfl ((hW.call FS.out k).upd 1 _ trivial)
            · intro r a w' hf hg hW hr hd K hK
              refine wpOp_of rfl rfl ?_
              refine hf.depE hg hd 1 8 (by kernel_rfl) fun u0 e0 g0 h0 => ?_
              replace g0 : u0 = .bool false := g0
              subst g0
              go_simp
              exact hK _ _ rfl (hW.upd 2 _ trivial)
            · intro r a w' hf hg hW hr hd K hK
              refine hf.depE hg hd 2 9 (by kernel_rfl) fun uG eG gG _ => ?_
              replace gG : uG = .bool false := gG
              subst gG
              refine wpOp_run rfl rfl rfl rfl eG ?_
              have e0 : a.tmps.getD 1 undef = .pointer (some ⟨w.heap.size, 0, none⟩) := hf.evalFree (by kernel_rfl)
              go_simp
              exact hK _ _ rfl (hW.upd 3 _ trivial)
            · intro r a w' hf hg hW hr hd K hK
              refine hf.depE hg hd 2 9 (by kernel_rfl) fun uG eG gG _ => ?_
              replace gG : uG = .bool false := gG
              subst gG
              refine wpOp_run rfl rfl rfl rfl eG ?_
              refine hf.depE hg hd 3 10 (by kernel_rfl) fun u0 e0 g0 h0 => ?_
              replace g0 : u0 = .pointer (some ⟨w.heap.size, 3, none⟩) := g0
              subst g0
              have z0 := hW.kp.cell p3 id
              go_simp
              exact hK _ _ rfl (hW.upd 4 _ trivial)
            · intro r a w' hf hg hW hr hd K hK
              refine hf.depE hg hd 2 9 (by kernel_rfl) fun uG eG gG _ => ?_
              replace gG : uG = .bool false := gG
              subst gG
              refine wpOp_run rfl rfl rfl rfl eG ?_
              refine hf.depE hg hd 4 11 (by kernel_rfl) fun u0 e0 g0 h0 => ?_
              replace g0 : u0 = .slice (some ⟨bC, oC, none⟩) n cc := g0
              subst g0
              go_simp
              exact hK _ _ rfl (hW.upd 5 _ trivial)
            · intro r a w' hf hg hW hr hd K hK
              refine hf.depE hg hd 2 9 (by kernel_rfl) fun uG eG gG _ => ?_
              replace gG : uG = .bool false := gG
              subst gG
              refine wpOp_run rfl rfl rfl rfl eG ?_
              refine hf.depE hg hd 5 12 (by kernel_rfl) fun u0 e0 g0 h0 => ?_
              replace g0 : u0 = .int .i64 (n : Nat) := g0
              subst g0
              go_simp
              exact hK _ _ rfl (hW.upd 6 _ trivial)
            · intro r a w' hf hg hW hr hd K hK
              refine hf.depE hg hd 2 9 (by kernel_rfl) fun uG eG gG _ => ?_
              replace gG : uG = .bool false := gG
              subst gG
              refine wpOp_run rfl rfl rfl rfl eG ?_
              refine hf.depE hg hd 6 13 (by kernel_rfl) fun u0 e0 g0 h0 => ?_
              replace g0 : u0 = .bool true := g0
              subst g0
              go_simp
              exact hK _ _ rfl (hW.upd 7 _ trivial)
            · intro r a w' hf hg hW hr hd K hK
              refine hf.depE hg hd 7 14 (by kernel_rfl) fun uG eG gG _ => ?_
              replace gG : uG = .bool true := gG
              subst gG
              refine wpOp_run rfl rfl rfl rfl eG ?_
              have e0 : a.tmps.getD 1 undef = .pointer (some ⟨w.heap.size, 0, none⟩) := hf.evalFree (by kernel_rfl)
              go_simp
              exact hK _ _ rfl (hW.upd 8 _ trivial)
            · intro r a w' hf hg hW hr hd K hK
              refine hf.depE hg hd 7 14 (by kernel_rfl) fun uG eG gG _ => ?_
              replace gG : uG = .bool true := gG
              subst gG
              refine wpOp_run rfl rfl rfl rfl eG ?_
              refine hf.depE hg hd 8 15 (by kernel_rfl) fun u0 e0 g0 h0 => ?_
              replace g0 : u0 = .pointer (some ⟨w.heap.size, 3, none⟩) := g0
              subst g0
              have z0 := hW.kp.cell p3 id
              go_simp
              exact hK _ _ rfl (hW.upd 9 _ trivial)
            · intro r a w' hf hg hW hr hd K hK
              refine hf.depE hg hd 7 14 (by kernel_rfl) fun uG eG gG _ => ?_
              replace gG : uG = .bool true := gG
              subst gG
              refine wpOp_run rfl rfl rfl rfl eG ?_
              refine hf.depE hg hd 9 16 (by kernel_rfl) fun u0 e0 g0 h0 => ?_
              replace g0 : u0 = .slice (some ⟨bC, oC, none⟩) n cc := g0
              subst g0
              go_simp
              exact hK _ _ rfl (hW.upd 10 _ trivial)
            · intro r a w' hf hg hW hr hd K hK
              refine hf.depE hg hd 7 14 (by kernel_rfl) fun uG eG gG _ => ?_
              replace gG : uG = .bool true := gG
              subst gG
              refine wpOp_run rfl rfl rfl rfl eG ?_
              have e0 : a.tmps.getD 1 undef = .pointer (some ⟨w.heap.size, 0, none⟩) := hf.evalFree (by kernel_rfl)
              go_simp
              exact hK _ _ rfl (hW.upd 11 _ trivial)
            · intro r a w' hf hg hW hr hd K hK
              refine hf.depE hg hd 7 14 (by kernel_rfl) fun uG eG gG _ => ?_
              replace gG : uG = .bool true := gG
              subst gG
              refine wpOp_run rfl rfl rfl rfl eG ?_
              refine hf.depE hg hd 11 18 (by kernel_rfl) fun u0 e0 g0 h0 => ?_
              replace g0 : u0 = .pointer (some ⟨w.heap.size, 3, none⟩) := g0
              subst g0
              have z0 := hW.kp.cell p3 id
              go_simp
              exact hK _ _ rfl (hW.upd 12 _ trivial)
            · intro r a w' hf hg hW hr hd K hK
              refine hf.depE hg hd 7 14 (by kernel_rfl) fun uG eG gG _ => ?_
              replace gG : uG = .bool true := gG
              subst gG
              refine wpOp_run rfl rfl rfl rfl eG ?_
              refine hf.depE hg hd 12 19 (by kernel_rfl) fun u0 e0 g0 h0 => ?_
              replace g0 : u0 = .slice (some ⟨bC, oC, none⟩) n cc := g0
              subst g0
              go_simp
              exact hK _ _ rfl (hW.upd 13 _ trivial)
            · intro r a w' hf hg hW hr hd K hK
              refine hf.depE hg hd 7 14 (by kernel_rfl) fun uG eG gG _ => ?_
              replace gG : uG = .bool true := gG
              subst gG
              refine wpOp_run rfl rfl rfl rfl eG ?_
              refine hf.depE hg hd 13 20 (by kernel_rfl) fun u0 e0 g0 h0 => ?_
              replace g0 : u0 = .pointer (some ⟨bC, oC, none⟩) := g0
              subst g0
              go_simp
              exact hK _ _ rfl (hW.upd 14 _ trivial)
            · intro r a w' hf hg hW hr hd K hK
              refine hf.depE hg hd 7 14 (by kernel_rfl) fun uG eG gG _ => ?_
              replace gG : uG = .bool true := gG
              subst gG
              refine wpOp_run rfl rfl rfl rfl eG ?_
              refine hf.depE hg hd 14 21 (by kernel_rfl) fun u0 e0 g0 h0 => ?_
              replace g0 : u0 = .pointer (some ⟨bC, oC + 1, none⟩) := g0
              subst g0
              have z0 := hW.kp.cell y1 id
              go_simp
              exact hK _ _ rfl (hW.upd 15 _ trivial)
            · intro r a w' hf hg hW hr hd K hK
              refine hf.depE hg hd 7 14 (by kernel_rfl) fun uG eG gG _ => ?_
              replace gG : uG = .bool true := gG
              subst gG
              refine wpOp_run rfl rfl rfl rfl eG ?_
              refine hf.depE hg hd 15 22 (by kernel_rfl) fun u0 e0 g0 h0 => ?_
              replace g0 : u0 = .slice A0 KK c0 := g0
              subst g0
              go_simp
              exact hK _ _ rfl (hW.upd 16 _ trivial)
            · intro r a w' hf hg hW hr hd K hK
              refine hf.depE hg hd 7 14 (by kernel_rfl) fun uG eG gG _ => ?_
              replace gG : uG = .bool true := gG
              subst gG
              refine wpOp_run rfl rfl rfl rfl eG ?_
              refine hf.depE hg hd 10 17 (by kernel_rfl) fun u0 e0 g0 h0 => ?_
              replace g0 : u0 = .int .i64 (n : Nat) := g0
              subst g0
              refine hf.depE hg hd 16 23 (by kernel_rfl) fun u1 e1 g1 h1 => ?_
              replace g1 : u1 = .int .i64 (KK : Nat) := g1
              subst g1
              go_simp
              exact hK _ _ rfl (hW.upd 17 _ trivial)
            · intro r a w' hf hg hW hr hd K hK
              refine hf.depE hg hd 7 14 (by kernel_rfl) fun uG eG gG _ => ?_
              replace gG : uG = .bool true := gG
              subst gG
              refine wpOp_run rfl rfl rfl rfl eG ?_
              refine hf.depE hg hd 17 24 (by kernel_rfl) fun u0 e0 g0 h0 => ?_
              replace g0 : u0 = .int .i64 ((n : Int) + (KK : Int)) := g0
              subst g0
              go_simp
              exact hK _ _ rfl (hW.upd 18 _ trivial)
            · intro r a w' hf hg hW hr hd K hK
              refine hf.depE hg hd 2 9 (by kernel_rfl) fun uG eG gG _ => ?_
              replace gG : uG = .bool false := gG
              subst gG
              refine wpOp_run rfl rfl rfl rfl eG ?_
              refine hf.depE hg hd 7 14 (by kernel_rfl) fun u0 e0 g0 h0 => ?_
              replace g0 : u0 = .bool true := g0
              subst g0
              have e0' := get_of_getD e0
              refine hf.depE hg hd 18 25 (by kernel_rfl) fun u1 e1 g1 h1 => ?_
              replace g1 : u1 = .bool false := g1
              subst g1
              have e1' := get_of_getD e1
              go_simp
              exact hK _ _ rfl (hW.upd 19 _ trivial)
            · intro r a w' hf hg hW hr hd K hK
              refine hf.depE hg hd 2 9 (by kernel_rfl) fun uG eG gG _ => ?_
              replace gG : uG = .bool false := gG
              subst gG
              refine wpOp_run rfl rfl rfl rfl eG ?_
              refine hf.depE hg hd 19 26 (by kernel_rfl) fun u0 e0 g0 h0 => ?_
              replace g0 : u0 = .bool false := g0
              subst g0
              go_simp
              exact hK _ _ rfl (hW.upd 20 _ trivial)
            · intro r a w' hf hg hW hr hd K hK
              refine hf.depE hg hd 20 27 (by kernel_rfl) fun uG eG gG _ => ?_
              replace gG : uG = .bool false := gG
              subst gG
              refine wpOp_skip rfl rfl rfl rfl eG (by decide) ?_
              exact hK _ _ rfl (hW.upd 21 _ trivial)
            · intro r a w' hf hg hW hr hd K hK
              refine hf.depE hg hd 20 27 (by kernel_rfl) fun uG eG gG _ => ?_
              replace gG : uG = .bool false := gG
              subst gG
              refine wpOp_skip rfl rfl rfl rfl eG (by decide) ?_
              exact hK _ _ rfl (hW.upd 22 _ trivial)
            · intro r a w' hf hg hW hr hd K hK
              refine hf.depE hg hd 20 27 (by kernel_rfl) fun uG eG gG _ => ?_
              replace gG : uG = .bool false := gG
              subst gG
              refine wpOp_skip rfl rfl rfl rfl eG (by decide) ?_
              exact hK _ _ rfl (hW.upd 23 _ trivial)
            · intro r a w' hf hg hW hr hd K hK
              refine hf.depE hg hd 2 9 (by kernel_rfl) fun uG eG gG _ => ?_
              replace gG : uG = .bool false := gG
              subst gG
              refine wpOp_run rfl rfl rfl rfl eG ?_
              refine hf.depE hg hd 20 27 (by kernel_rfl) fun u0 e0 g0 h0 => ?_
              replace g0 : u0 = .bool false := g0
              subst g0
              have e0' := get_of_getD e0
              refine hf.depE hg hd 23 30 (by kernel_rfl) fun u1 e1 g1 h1 => ?_
              replace g1 : u1 = undef := g1
              subst g1
              have e1' := get_of_getD e1
              go_simp
              exact hK _ _ rfl (hW.upd 24 _ trivial)
            · intro r a w' hf hg hW hr hd K hK
              refine wpOp_of rfl rfl ?_
              refine hf.depE hg hd 2 9 (by kernel_rfl) fun u0 e0 g0 h0 => ?_
              replace g0 : u0 = .bool false := g0
              subst g0
              have e0' := get_of_getD e0
              refine hf.depE hg hd 24 31 (by kernel_rfl) fun u1 e1 g1 h1 => ?_
              replace g1 : u1 = .bool false := g1
              subst g1
              have e1' := get_of_getD e1
              go_simp
              exact hK _ _ rfl (hW.upd 25 _ trivial)
          intro r' w1 hg hW hr'
          have hkN := hW.kp
          obtain ⟨q25, hq25⟩ : ∃ u, r' 25 = some u := Option.ne_none_iff_exists'.1 (hr' 25 (by decide))
          have hk25 := hg 25 q25 hq25
          replace hk25 : q25 = .bool false := hk25
          subst hk25
          simp only [List.length_cons, List.length_nil, Nat.reduceAdd, List.range_succ, List.range_zero, List.nil_append, List.cons_append, List.map_cons, List.map_nil, putAll, Act.put, List.setIfInBounds_toArray, List.set_cons_succ, List.set_cons_zero, hq25, Option.getD_some]
          clear hg hW hr' FS hq25
          clear y0 y1 es d1 d1' d2
          have K1 := Lib.hid hkN
          have B1 := Lib.hid (hkN.heap HBX.out id)
          clear hkN p0 p1 p2 p3
          obtain ⟨p0, p1, p2, p3⟩ := four_at B1.out
          have LX := Lib.hid (LO.out w1 K1.out)
          go_wp2_with fail
          with_reducible refine LX.out.mono ?_
          rintro e w2 ⟨k2, u, rfl, A1, n1, cp1, rfl, L1, hL1, hr1, hn1, ho1⟩
          have K2 := Lib.hid (K1.out.tr k2)
          have B2 := Lib.hid (k2.heap B1.out id)
          have HL1 := Lib.hid hL1
          have HR1 := Lib.hid hr1
          have HO1 := Lib.hid ho1
          clear k2 p0 p1 p2 p3 hL1 hr1 ho1
          obtain ⟨p0, p1, p2, p3⟩ := four_at B2.out
          have RX := Lib.hid (RO.out w2 K2.out)
          go_wp2_with fail
          with_reducible refine RX.out.mono ?_
          rintro e w3 ⟨k3, u, rfl, A2, n2, cp2, rfl, L2, hL2, hr2, hn2, ho2⟩
          have K3 := Lib.hid (K2.out.tr k3)
          have SM := Same_any A1 A2 n1 cp1 n2 cp2 L1 L2 w3 (HR1.out.no k3) hr2 (fun x hx => ⟨((HO1.out x hx).no k3).is, (HO1.out x hx).small (lesL_ok (HL1.out ▸ List.mem_map.2 ⟨x, hx, rfl⟩)) HL8.out.1 HL8.out.2⟩) (fun x hx => ⟨(ho2 x hx).is, (ho2 x hx).small (lesL_ok (hL2 ▸ List.mem_map.2 ⟨x, hx, rfl⟩)) HL8.out.1 HL8.out.2⟩) (by omega) (by omega)
          rw [HL1.out, hL2, decide_eq_true rfl] at SM
          replace SM := Lib.hid SM
          obtain ⟨le, hle⟩ : ∃ le, leaE l.length (keysN l) (starC N l) = le := ⟨_, rfl⟩
          rw [hle]
          have de : (le == le) = true := by simp
          clear k3 p0 p1 p2 p3 hL2 hr2 ho2 hle
          go_wp2_with fail
          with_reducible refine SM.out.mono ?_
          rintro e w4 ⟨rfl, q4, rfl⟩
          go_wp2_with fail
          with_reducible refine (shown_any _).mono ?_
          rintro e w5 ⟨rfl, k5⟩
          go_wp2_with fail
          go_ret
          exact ⟨rfl, HK.out.tr (K3.out.tr ((Kp.drewN _ _ _).tr k5))⟩
        · clear hs
          have es := ES.out
          go_wp2_with fail
          have FS : Stab (fun ix wz u => True) := fun ix u wz wz' kz h => trivial
          replace FS := Lib.hid FS
          refine wp_region_each (fun ix uR => match ix with | 0 => uR = .agg #[.int .i64 Z.n, .slice A Z.tr.length ca, .slice B Z.ch.length cb, .slice (some ⟨bC, oC, none⟩) n cc] | 1 => uR = .bool false | 2 => uR = .bool false | 3 => uR = .pointer (some ⟨w.heap.size, 3, none⟩) | 4 => uR = .slice (some ⟨bC, oC, none⟩) n cc | 5 => uR = .int .i64 (n : Nat) | 6 => uR = .bool true | 7 => uR = .bool true | 8 => uR = .pointer (some ⟨w.heap.size, 3, none⟩) | 9 => uR = .slice (some ⟨bC, oC, none⟩) n cc | 10 => uR = .int .i64 (n : Nat) | 11 => uR = .pointer (some ⟨w.heap.size, 3, none⟩) | 12 => uR = .slice (some ⟨bC, oC, none⟩) n cc | 13 => uR = .pointer (some ⟨bC, oC, none⟩) | 14 => uR = .pointer (some ⟨bC, oC + 1, none⟩) | 15 => uR = .slice A0 KK c0 | 16 => uR = .int .i64 (KK : Nat) | 17 => uR = .int .i64 ((n : Int) + (KK : Int)) | 18 => uR = .bool false | 19 => uR = .bool false | 20 => uR = .bool false | 21 => uR = undef | 22 => uR = undef | 23 => uR = undef | 24 => uR = .bool false | 25 => uR = .bool false | _ => True) (HvW w0 (fun ix wz u => True)) (by kernel_rfl) (by kernel_rfl) (by kernel_rfl) ?_ ?_ ?_
          · exact HvW.start _ _
          · refine ⟨?_, ?_, ?_, ?_, ?_, ?_, ?_, ?_, ?_, ?_, ?_, ?_, ?_, ?_, ?_, ?_, ?_, ?_, ?_, ?_, ?_, ?_, ?_, ?_, ?_, ?_, trivial⟩
            · intro r a w' hf hg hW hr hd K hK
              refine wpOp_of rfl rfl ?_
              have e0 : a.tmps.getD 1 undef = .pointer (some ⟨w.heap.size, 0, none⟩) := hf.evalFree (by kernel_rfl)
              have z0 := hW.kp.cell p0 id
              have z1 := hW.kp.cell p1 id
              have z2 := hW.kp.cell p2 id
              have z3 := hW.kp.cell p3 id
              go_simp
              exact hK _ _ rfl (hW.upd 0 _ trivial)
            · intro r a w' hf hg hW hr hd K hK
              refine wpOp_of rfl rfl ?_
              refine hf.depE hg hd 0 7 (by kernel_rfl) fun u0 e0 g0 h0 => ?_
              replace g0 : u0 = .agg #[.int .i64 Z.n, .slice A Z.tr.length ca, .slice B Z.ch.length cb, .slice (some ⟨bC, oC, none⟩) n cc] := g0
              subst g0
              have FX := FA.out _ hW.kp
              go_simp
              with_reducible refine FX.mono ?_
              rintro e w'' ⟨b, rfl, hb, k⟩
              rw [← HFB.out] at hb
              subst hb
              exact hK _ _ rfl ((hW.call FS.out k).upd 1 _ trivial)
            · intro r a w' hf hg hW hr hd K hK
              refine wpOp_of rfl rfl ?_
              refine hf.depE hg hd 1 8 (by kernel_rfl) fun u0 e0 g0 h0 => ?_
              replace g0 : u0 = .bool false := g0
              subst g0
              go_simp
              exact hK _ _ rfl (hW.upd 2 _ trivial)
            · intro r a w' hf hg hW hr hd K hK
              refine hf.depE hg hd 2 9 (by kernel_rfl) fun uG eG gG _ => ?_
              replace gG : uG = .bool false := gG
              subst gG
              refine wpOp_run rfl rfl rfl rfl eG ?_
              have e0 : a.tmps.getD 1 undef = .pointer (some ⟨w.heap.size, 0, none⟩) := hf.evalFree (by kernel_rfl)
              go_simp
              exact hK _ _ rfl (hW.upd 3 _ trivial)
            · intro r a w' hf hg hW hr hd K hK
              refine hf.depE hg hd 2 9 (by kernel_rfl) fun uG eG gG _ => ?_
              replace gG : uG = .bool false := gG
              subst gG
              refine wpOp_run rfl rfl rfl rfl eG ?_
              refine hf.depE hg hd 3 10 (by kernel_rfl) fun u0 e0 g0 h0 => ?_
              replace g0 : u0 = .pointer (some ⟨w.heap.size, 3, none⟩) := g0
              subst g0
              have z0 := hW.kp.cell p3 id
              go_simp
              exact hK _ _ rfl (hW.upd 4 _ trivial)
            · intro r a w' hf hg hW hr hd K hK
              refine hf.depE hg hd 2 9 (by kernel_rfl) fun uG eG gG _ => ?_
              replace gG : uG = .bool false := gG
              subst gG
              refine wpOp_run rfl rfl rfl rfl eG ?_
              refine hf.depE hg hd 4 11 (by kernel_rfl) fun u0 e0 g0 h0 => ?_
              replace g0 : u0 = .slice (some ⟨bC, oC, none⟩) n cc := g0
              subst g0
              go_simp
              exact hK _ _ rfl (hW.upd 5 _ trivial)
            · intro r a w' hf hg hW hr hd K hK
              refine hf.depE hg hd 2 9 (by kernel_rfl) fun uG eG gG _ => ?_
              replace gG : uG = .bool false := gG
              subst gG
              refine wpOp_run rfl rfl rfl rfl eG ?_
              refine hf.depE hg hd 5 12 (by kernel_rfl) fun u0 e0 g0 h0 => ?_
              replace g0 : u0 = .int .i64 (n : Nat) := g0
              subst g0
              go_simp
              exact hK _ _ rfl (hW.upd 6 _ trivial)
            · intro r a w' hf hg hW hr hd K hK
              refine hf.depE hg hd 2 9 (by kernel_rfl) fun uG eG gG _ => ?_
              replace gG : uG = .bool false := gG
              subst gG
              refine wpOp_run rfl rfl rfl rfl eG ?_
              refine hf.depE hg hd 6 13 (by kernel_rfl) fun u0 e0 g0 h0 => ?_
              replace g0 : u0 = .bool true := g0
              subst g0
              go_simp
              exact hK _ _ rfl (hW.upd 7 _ trivial)
            · intro r a w' hf hg hW hr hd K hK
              refine hf.depE hg hd 7 14 (by kernel_rfl) fun uG eG gG _ => ?_
              replace gG : uG = .bool true := gG
              subst gG
              refine wpOp_run rfl rfl rfl rfl eG ?_
              have e0 : a.tmps.getD 1 undef = .pointer (some ⟨w.heap.size, 0, none⟩) := hf.evalFree (by kernel_rfl)
              go_simp
              exact hK _ _ rfl (hW.upd 8 _ trivial)
            · intro r a w' hf hg hW hr hd K hK
              refine hf.depE hg hd 7 14 (by kernel_rfl) fun uG eG gG _ => ?_
              replace gG : uG = .bool true := gG
              subst gG
              refine wpOp_run rfl rfl rfl rfl eG ?_
              refine hf.depE hg hd 8 15 (by kernel_rfl) fun u0 e0 g0 h0 => ?_
              replace g0 : u0 = .pointer (some ⟨w.heap.size, 3, none⟩) := g0
              subst g0
              have z0 := hW.kp.cell p3 id
              go_simp
              exact hK _ _ rfl (hW.upd 9 _ trivial)
            · intro r a w' hf hg hW hr hd K hK
              refine hf.depE hg hd 7 14 (by kernel_rfl) fun uG eG gG _ => ?_
              replace gG : uG = .bool true := gG
              subst gG
              refine wpOp_run rfl rfl rfl rfl eG ?_
              refine hf.depE hg hd 9 16 (by kernel_rfl) fun u0 e0 g0 h0 => ?_
              replace g0 : u0 = .slice (some ⟨bC, oC, none⟩) n cc := g0
              subst g0
              go_simp
              exact hK _ _ rfl (hW.upd 10 _ trivial)
            · intro r a w' hf hg hW hr hd K hK
              refine hf.depE hg hd 7 14 (by kernel_rfl) fun uG eG gG _ => ?_
              replace gG : uG = .bool true := gG
              subst gG
              refine wpOp_run rfl rfl rfl rfl eG ?_
              have e0 : a.tmps.getD 1 undef = .pointer (some ⟨w.heap.size, 0, none⟩) := hf.evalFree (by kernel_rfl)
              go_simp
              exact hK _ _ rfl (hW.upd 11 _ trivial)
            · intro r a w' hf hg hW hr hd K hK
              refine hf.depE hg hd 7 14 (by kernel_rfl) fun uG eG gG _ => ?_
              replace gG : uG = .bool true := gG
              subst gG
              refine wpOp_run rfl rfl rfl rfl eG ?_
              refine hf.depE hg hd 11 18 (by kernel_rfl) fun u0 e0 g0 h0 => ?_
              replace g0 : u0 = .pointer (some ⟨w.heap.size, 3, none⟩) := g0
              subst g0
              have z0 := hW.kp.cell p3 id
              go_simp
              exact hK _ _ rfl (hW.upd 12 _ trivial)
            · intro r a w' hf hg hW hr hd K hK
              refine hf.depE hg hd 7 14 (by kernel_rfl) fun uG eG gG _ => ?_
              replace gG : uG = .bool true := gG
              subst gG
              refine wpOp_run rfl rfl rfl rfl eG ?_
              refine hf.depE hg hd 12 19 (by kernel_rfl) fun u0 e0 g0 h0 => ?_
              replace g0 : u0 = .slice (some ⟨bC, oC, none⟩) n cc := g0
              subst g0
              go_simp
              exact hK _ _ rfl (hW.upd 13 _ trivial)
            · intro r a w' hf hg hW hr hd K hK
              refine hf.depE hg hd 7 14 (by kernel_rfl) fun uG eG gG _ => ?_
              replace gG : uG = .bool true := gG
              subst gG
              refine wpOp_run rfl rfl rfl rfl eG ?_
              refine hf.depE hg hd 13 20 (by kernel_rfl) fun u0 e0 g0 h0 => ?_
              replace g0 : u0 = .pointer (some ⟨bC, oC, none⟩) := g0
              subst g0
              go_simp
              exact hK _ _ rfl (hW.upd 14 _ trivial)
            · intro r a w' hf hg hW hr hd K hK
              refine hf.depE hg hd 7 14 (by kernel_rfl) fun uG eG gG _ => ?_
              replace gG : uG = .bool true := gG
              subst gG
              refine wpOp_run rfl rfl rfl rfl eG ?_
              refine hf.depE hg hd 14 21 (by kernel_rfl) fun u0 e0 g0 h0 => ?_
              replace g0 : u0 = .pointer (some ⟨bC, oC + 1, none⟩) := g0
              subst g0
              have z0 := hW.kp.cell y1 id
              go_simp
              exact hK _ _ rfl (hW.upd 15 _ trivial)
            · intro r a w' hf hg hW hr hd K hK
              refine hf.depE hg hd 7 14 (by kernel_rfl) fun uG eG gG _ => ?_
              replace gG : uG = .bool true := gG
              subst gG
              refine wpOp_run rfl rfl rfl rfl eG ?_
              refine hf.depE hg hd 15 22 (by kernel_rfl) fun u0 e0 g0 h0 => ?_
              replace g0 : u0 = .slice A0 KK c0 := g0
              subst g0
              go_simp
              exact hK _ _ rfl (hW.upd 16 _ trivial)
            · intro r a w' hf hg hW hr hd K hK
              refine hf.depE hg hd 7 14 (by kernel_rfl) fun uG eG gG _ => ?_
              replace gG : uG = .bool true := gG
              subst gG
              refine wpOp_run rfl rfl rfl rfl eG ?_
              refine hf.depE hg hd 10 17 (by kernel_rfl) fun u0 e0 g0 h0 => ?_
              replace g0 : u0 = .int .i64 (n : Nat) := g0
              subst g0
              refine hf.depE hg hd 16 23 (by kernel_rfl) fun u1 e1 g1 h1 => ?_
              replace g1 : u1 = .int .i64 (KK : Nat) := g1
              subst g1
              go_simp
              exact hK _ _ rfl (hW.upd 17 _ trivial)
            · intro r a w' hf hg hW hr hd K hK
              refine hf.depE hg hd 7 14 (by kernel_rfl) fun uG eG gG _ => ?_
              replace gG : uG = .bool true := gG
              subst gG
              refine wpOp_run rfl rfl rfl rfl eG ?_
              refine hf.depE hg hd 17 24 (by kernel_rfl) fun u0 e0 g0 h0 => ?_
              replace g0 : u0 = .int .i64 ((n : Int) + (KK : Int)) := g0
              subst g0
              go_simp
              exact hK _ _ rfl (hW.upd 18 _ trivial)
            · intro r a w' hf hg hW hr hd K hK
              refine hf.depE hg hd 2 9 (by kernel_rfl) fun uG eG gG _ => ?_
              replace gG : uG = .bool false := gG
              subst gG
              refine wpOp_run rfl rfl rfl rfl eG ?_
              refine hf.depE hg hd 7 14 (by kernel_rfl) fun u0 e0 g0 h0 => ?_
              replace g0 : u0 = .bool true := g0
              subst g0
              have e0' := get_of_getD e0
              refine hf.depE hg hd 18 25 (by kernel_rfl) fun u1 e1 g1 h1 => ?_
              replace g1 : u1 = .bool false := g1
              subst g1
              have e1' := get_of_getD e1
              go_simp
              exact hK _ _ rfl (hW.upd 19 _ trivial)
            · intro r a w' hf hg hW hr hd K hK
              refine hf.depE hg hd 2 9 (by kernel_rfl) fun uG eG gG _ => ?_
              replace gG : uG = .bool false := gG
              subst gG
              refine wpOp_run rfl rfl rfl rfl eG ?_
              refine hf.depE hg hd 19 26 (by kernel_rfl) fun u0 e0 g0 h0 => ?_
              replace g0 : u0 = .bool false := g0
              subst g0
              go_simp
              exact hK _ _ rfl (hW.upd 20 _ trivial)
            · intro r a w' hf hg hW hr hd K hK
              refine hf.depE hg hd 20 27 (by kernel_rfl) fun uG eG gG _ => ?_
              replace gG : uG = .bool false := gG
              subst gG
              refine wpOp_skip rfl rfl rfl rfl eG (by decide) ?_
              exact hK _ _ rfl (hW.upd 21 _ trivial)
            · intro r a w' hf hg hW hr hd K hK
              refine hf.depE hg hd 20 27 (by kernel_rfl) fun uG eG gG _ => ?_
              replace gG : uG = .bool false := gG
              subst gG
              refine wpOp_skip rfl rfl rfl rfl eG (by decide) ?_
              exact hK _ _ rfl (hW.upd 22 _ trivial)
            · intro r a w' hf hg hW hr hd K hK
              refine hf.depE hg hd 20 27 (by kernel_rfl) fun uG eG gG _ => ?_
              replace gG : uG = .bool false := gG
              subst gG
              refine wpOp_skip rfl rfl rfl rfl eG (by decide) ?_
              exact hK _ _ rfl (hW.upd 23 _ trivial)
            · intro r a w' hf hg hW hr hd K hK
              refine hf.depE hg hd 2 9 (by kernel_rfl) fun uG eG gG _ => ?_
              replace gG : uG = .bool false := gG
              subst gG
              refine wpOp_run rfl rfl rfl rfl eG ?_
              refine hf.depE hg hd 20 27 (by kernel_rfl) fun u0 e0 g0 h0 => ?_
              replace g0 : u0 = .bool false := g0
              subst g0
              have e0' := get_of_getD e0
              refine hf.depE hg hd 23 30 (by kernel_rfl) fun u1 e1 g1 h1 => ?_
              replace g1 : u1 = undef := g1
              subst g1
              have e1' := get_of_getD e1
              go_simp
              exact hK _ _ rfl (hW.upd 24 _ trivial)
            · intro r a w' hf hg hW hr hd K hK
              refine wpOp_of rfl rfl ?_
              refine hf.depE hg hd 2 9 (by kernel_rfl) fun u0 e0 g0 h0 => ?_
              replace g0 : u0 = .bool false := g0
              subst g0
              have e0' := get_of_getD e0
              refine hf.depE hg hd 24 31 (by kernel_rfl) fun u1 e1 g1 h1 => ?_
              replace g1 : u1 = .bool false := g1
              subst g1
              have e1' := get_of_getD e1
              go_simp
              exact hK _ _ rfl (hW.upd 25 _ trivial)
          intro r' w1 hg hW hr'
          have hkN := hW.kp
          obtain ⟨q25, hq25⟩ : ∃ u, r' 25 = some u := Option.ne_none_iff_exists'.1 (hr' 25 (by decide))
          have hk25 := hg 25 q25 hq25
          replace hk25 : q25 = .bool false := hk25
          subst hk25
          simp only [List.length_cons, List.length_nil, Nat.reduceAdd, List.range_succ, List.range_zero, List.nil_append, List.cons_append, List.map_cons, List.map_nil, putAll, Act.put, List.setIfInBounds_toArray, List.set_cons_succ, List.set_cons_zero, hq25, Option.getD_some]
          clear hg hW hr' FS hq25
          clear y0 y1 es d1 d1' d2
          have K1 := Lib.hid hkN
          have B1 := Lib.hid (hkN.heap HBX.out id)
          clear hkN p0 p1 p2 p3
          obtain ⟨p0, p1, p2, p3⟩ := four_at B1.out
          have LX := Lib.hid (LB.out cz w1 K1.out HCZ.out hz)
          have HZ := Lib.hid hz
          clear hz
          go_wp2_with fail
          with_reducible refine LX.out.mono ?_
          rintro e w2 ⟨rfl, k2⟩
          have K2 := Lib.hid (K1.out.tr k2)
          have B2 := Lib.hid (k2.heap B1.out id)
          clear k2 p0 p1 p2 p3
          obtain ⟨p0, p1, p2, p3⟩ := four_at B2.out
          have RX := Lib.hid (RB.out cz w2 K2.out HCZ.out HZ.out)
          go_wp2_with fail
          with_reducible refine RX.out.mono ?_
          rintro e w3 ⟨rfl, k3⟩
          have K3 := Lib.hid (K2.out.tr k3)
          have SM := Lib.hid (Same_any none none 0 0 0 0 [] [] w3 (Rd.nil _ _) (Rd.nil _ _) (fun x hx => by cases hx) (fun x hx => by cases hx) (by omega) (by omega))
          have de : (cz == cz) = true := by simp
          clear k3 p0 p1 p2 p3
          go_wp2_with fail
          with_reducible refine SM.out.mono ?_
          rintro e w4 ⟨rfl, q4, rfl⟩
          go_wp2_with fail
          with_reducible refine (shown_any _).mono ?_
          rintro e w5 ⟨rfl, k5⟩
          go_wp2_with fail
          go_ret
          exact ⟨rfl, HK.out.tr (K3.out.tr ((Kp.drewN _ _ _).tr k5))⟩
end Go.Proofs.YtpkbpeeelpgmcaaGreat
