/- Chapter 27: the law of VoicingUndo. Printed by gen_lun.py. -/
import Derived.Test.YtjbpdimepckmfaaXUnP
import Derived.Test.YtjbpdimepckmfaaXRud
import Derived.Test.YtjbpdimepckmfaaXNxt
import Derived.Test.YtjbpdimepckmfaaXLibAp2
import Derived.Test.YtjbpdimepckmfaaXLibHw
namespace Go.Proofs.Ytjbpdimepckmfaa
open Go.RowKit Go.Kq

set_option maxHeartbeats 2000000 in
set_option maxRecDepth 100000 in
theorem tundo_bad (A : Option Addr) (n ca : Nat) (l : List Wk) (p q : Nat) (w : World) (hx : RdW w A n l) (fa : Fits l) (hca : n ≤ ca) (hbad : chkL l ≠ 0 ∨ n = 0 ∨ 398 < n ∨ 999999998 < ckAt l n - 1) :
    Calls Try.prog 7 #[.slice A n ca, .int .u16 (p : Int), .int .u16 (q : Int)] w fun e w' => e = .returned (.bool true) ∧ Kp No w w' := by
  have CA := rCheck_any A n ca l w hx fa hca
  have HX := Lib.hid hx
  clear hx fa
  have fin : ∀ w1, Kp No w w1 → Calls Try.prog 13 #[] w1 fun e w' => e = .returned (.bool true) ∧ Kp No w w' := fun w1 hk => (awake_any w1).mono fun e w' ⟨h1, h2⟩ => ⟨h1, hk.tr h2⟩
  have FIN := Lib.hid fin
  clear fin
  by_cases h1 : chkL l = 0
  rotate_left
  · have q1 : (chkL l != 0) = true := by rw [bne_iff_ne]; exact h1
    generalize chkL l = x at CA q1
    clear h1 hbad
    go_enter Try.func7, Try.ntmps7
    go_wp2_with fail
    with_reducible refine CA.mono ?_
    rintro e w1 ⟨rfl, hk1⟩
    go_wp2_with fail
    with_reducible refine (FIN.out w1 hk1).mono ?_
    rintro e w2 ⟨rfl, hk2⟩
    go_wp2_with fail
    go_ret
    exact ⟨rfl, hk2⟩
  rw [h1] at CA
  by_cases h2 : n = 0
  · subst h2
    clear hbad h1
    go_enter Try.func7, Try.ntmps7
    go_wp2_with fail
    with_reducible refine CA.mono ?_
    rintro e w1 ⟨rfl, hk1⟩
    go_wp2_with fail
    with_reducible refine (FIN.out w1 hk1).mono ?_
    rintro e w2 ⟨rfl, hk2⟩
    go_wp2_with fail
    go_ret
    exact ⟨rfl, hk2⟩
  have q2 : ((n : Int) == 0) = false := by rw [beq_eq_false_iff_ne]; omega
  by_cases h3 : 398 < n
  · have q3 : decide ((398 : Int) < (n : Int)) = true := by rw [decide_eq_true_eq]; omega
    clear hbad h1 h2 h3
    go_enter Try.func7, Try.ntmps7
    go_wp2_with fail
    with_reducible refine CA.mono ?_
    rintro e w1 ⟨rfl, hk1⟩
    go_wp2_with fail
    with_reducible refine (FIN.out w1 hk1).mono ?_
    rintro e w2 ⟨rfl, hk2⟩
    go_wp2_with fail
    go_ret
    exact ⟨rfl, hk2⟩
  have h4 : 999999998 < ckAt l n - 1 := by
    rcases hbad with h | h | h | h
    · exact absurd h1 h
    · exact absurd h h2
    · exact absurd h h3
    · exact h
  have q3 : decide ((398 : Int) < (n : Int)) = false := by rw [decide_eq_false_iff_not]; omega
  obtain ⟨j, rfl⟩ : ∃ j, n = j + 1 := ⟨n - 1, by omega⟩
  obtain ⟨u, hu⟩ : ∃ u, l[j]? = some u := ⟨_, List.getElem?_eq_getElem (by rw [HX.out.1]; omega)⟩
  have h5 : 999999998 < u.ck := by
    have e : ckAt l (j + 1) = u.ck + 1 := by show (match l[j]? with | some u => u.ck + 1 | none => 1) = _; rw [hu]
    omega
  have q4 : decide ((999999998 : Int) < u.ck) = true := decide_eq_true h5
  have hj3 : j ≤ 397 := by omega
  have hj1 : ((j + 1 : Nat) : Int) - 1 = (j : Int) := by omega
  have hj2 : ((j + 1 : Nat) : Int) = (j : Int) + 1 := by omega
  rw [hj2] at q2 q3
  have HU := Lib.hid hu
  clear hbad h1 h2 h3 h4 h5 hu hj1
  have HJ2 := Lib.hid hj2
  clear hj2
  go_enter Try.func7, Try.ntmps7
  go_wp2_with fail
  with_reducible refine CA.mono ?_
  rintro e w1 ⟨rfl, hk1⟩
  obtain ⟨b, o, rfl, _, hat⟩ := RdW.at_ (HX.out.no hk1) HU.out
  obtain ⟨_, _, c2, _⟩ := hat
  go_wp2_with fail
  with_reducible refine (FIN.out w1 hk1).mono ?_
  rintro e w2 ⟨rfl, hk2⟩
  go_wp2_with fail
  go_ret
  exact ⟨rfl, hk2⟩
set_option maxHeartbeats 4000000 in
set_option maxRecDepth 100000 in
theorem tundo_ok (A : Option Addr) (j ca : Nat) (l : List Wk) (p wk : Nat) (w : World) (hx : RdW w A (j + 1) l) (fa : Fits l) (hca : j + 1 ≤ ca) (nA : A = none → j + 1 = 0 ∧ ca = 0) (h1 : chkL l = 0) (h3 : j ≤ 397) (h4 : ckAt l (j + 1) ≤ 999999999) (hp : p < 65536) (hwk : wk < 65536) :
    Calls Try.prog 7 #[.slice A (j + 1) ca, .int .u16 (p : Int), .int .u16 (wk : Int)] w fun e w' => e = .returned (.bool true) ∧ Kp No w w' := by
  have CA := rCheck_any A (j + 1) ca l w hx fa hca
  have HX := Lib.hid hx
  have HF := Lib.hid fa
  have HL := Lib.hid hx.1
  have HR := Lib.hid (rec_of h1)
  obtain ⟨i0, hi0, hz0, hz1, hz2⟩ := info_parts info41
  have FIN := Lib.hid (fun w1 (hk : Kp No w w1) => (awake_any w1).mono (R' := fun e w' => e = .returned (.bool true) ∧ Kp No w w') fun e w' ⟨h1, h2⟩ => ⟨h1, hk.tr h2⟩)
  obtain ⟨lu, hlu⟩ : ∃ u, l[j]? = some u := ⟨_, List.getElem?_eq_getElem (by rw [HL.out]; omega)⟩
  have hlc : lu.ck ≤ 999999998 := by
    have e : ckAt l (j + 1) = lu.ck + 1 := by show (match l[j]? with | some u => u.ck + 1 | none => 1) = _; rw [hlu]
    omega
  have HLU := Lib.hid hlu
  have UA := fun w' (k : Kp No w w') => Undone_any A (j + 1) ca l w' (hx.no k) fa
  rw [h1] at CA UA
  simp only [undV_ok h1, undL_len, hx.1] at UA
  have HUA := Lib.hid UA
  obtain ⟨k, hk⟩ : ∃ k, k = p % (j + 1) := ⟨_, rfl⟩
  have hkn : k < j + 1 := by rw [hk]; exact Nat.mod_lt _ (by omega)
  have hrem : Int.tmod (p : Int) ((j : Int) + 1) = (k : Int) := by rw [hk]; rfl
  obtain ⟨u, hu⟩ : ∃ u, l[k]? = some u := ⟨_, List.getElem?_eq_getElem (by rw [HL.out]; omega)⟩
  obtain ⟨q, hq⟩ : ∃ q, (undL l)[k]? = some q := ⟨_, List.getElem?_eq_getElem (by rw [undL_len, HL.out]; omega)⟩
  have HU := Lib.hid hu
  have HQ := Lib.hid hq
  have HC1 := Lib.hid h1
  have HC4 := Lib.hid h4
  have HNA := Lib.hid nA
  clear hx fa hlu UA hk hu hq h1 h4 nA
  go_enter Try.func7, Try.ntmps7
  go_wp2_with fail
  with_reducible refine CA.mono ?_
  rintro e w1 ⟨rfl, hk1⟩
  obtain ⟨b, o, rfl, _, hat⟩ := RdW.at_ (HX.out.no hk1) HLU.out
  obtain ⟨_, _, c2, _⟩ := hat
  have q2 : ((j : Int) + 1 == 0) = false := by rw [beq_eq_false_iff_ne]; omega
  have q3 : decide ((398 : Int) < (j : Int) + 1) = false := by rw [decide_eq_false_iff_not]; omega
  have q4 : decide ((999999998 : Int) < lu.ck) = false := by rw [decide_eq_false_iff_not]; omega
  go_wp2_with fail
  with_reducible refine (HUA.out w1 hk1).mono ?_
  rintro e w4 ⟨v4, rfl, ho, hk12⟩
  have hk4 := hk1.tr hk12
  obtain ⟨a4, c4, rfl, _, _, hA4⟩ := own_form ho
  obtain ⟨G, rfl⟩ := hA4 (by omega)
  have hg : w4.cell? ⟨G, k, none⟩ = some (.bool q) := own_cell ho (by rw [List.getElem?_map, HQ.out]; rfl)
  have hkj : (k : Int) < (j : Int) + 1 := by omega
  clear c2 hlc q4 hA4 ho hk12 hk1 q2 q3
  cases q with
  | true =>
    go_wp2_with fail
    with_reducible refine (FIN.out w4 hk4).mono ?_
    rintro e w5 ⟨rfl, hk5⟩
    go_wp2_with fail
    go_ret
    exact ⟨rfl, hk5⟩
  | false =>
  obtain ⟨b', o', hbo, _, hau⟩ := RdW.at_ (HX.out.no hk4) HU.out
  cases hbo
  obtain ⟨c0, c1, _⟩ := hau
  obtain ⟨ak, ha⟩ : ∃ ak, ak = wk % 20 := ⟨_, rfl⟩
  have ha20 : ak < 20 := by omega
  have hrem2 : Int.tmod (wk : Int) 20 = (ak : Int) := by rw [ha]; rfl
  have hua := undo_ok HR.out (by rw [HL.out]; omega) (by rw [HL.out]; have := HC4.out; omega) (a := (ak : Int)) ⟨by omega, by omega⟩ HU.out
  obtain ⟨N, hN⟩ : ∃ N, N = undoN l (ak : Int) u := ⟨_, rfl⟩
  rw [← hN] at hua
  have HNN := Lib.hid hN
  have HUO := Lib.hid hua
  have NX := fun w' (kk : Kp No w4 w') => Next_any (some ⟨b, o, none⟩) (j + 1) ca l (undoW (ak : Int) u) w' (HX.out.no (hk4.tr kk)) HF.out (by show (ByteArray.mk #[]).size ≤ maxLen; decide)
  rw [hua.1] at NX
  have HNX := Lib.hid NX
  clear hua hN NX ha hp
  go_wp2_with fail
  have FS : Stab (fun ix wz u => True) := fun ix u wz wz' kz h => trivial
  have FB : ∀ (g : Nat) (wz wz' : World), Kp (Kq.One g) wz wz' → wz.heap[g]? = some (.cells (default : Wk).cells.toArray 41 (0, 0)) → ∀ (ix : Nat) (u : Value), ((fun ix wz u => True : Nat → World → Value → Prop) ix wz u) → ((fun ix wz u => True : Nat → World → Value → Prop) ix wz' u) := fun g wz wz' kz hz ix u h => trivial
  replace FS := Lib.hid FS
  replace FB := Lib.hid FB
  refine wp_region_each (fun ix uR => match ix with | 0 => uR = .slice (some ⟨b, o, none⟩) (j + 1) ca | 1 => uR = .int .u16 (wk : Int) | 2 => uR = .int .i64 (wk : Int) | 3 => uR = .int .i64 (ak : Int) | 4 => uR = .slice (some ⟨b, o, none⟩) (j + 1) ca | 5 => uR = .int .i64 (k : Int) | 6 => uR = .pointer (some ⟨b, o + k * 11, none⟩) | 7 => uR = .pointer (some ⟨b, o + k * 11, none⟩) | 8 => uR = .int .i64 u.wk | 9 => uR = .slice (some ⟨b, o, none⟩) (j + 1) ca | 10 => uR = .int .i64 (k : Int) | 11 => uR = .pointer (some ⟨b, o + k * 11, none⟩) | 12 => uR = .pointer (some ⟨b, o + k * 11 + 1, none⟩) | 13 => uR = .int .i64 u.num | 14 => uR = Wk.val (undoW (ak : Int) u) | 15 => uR = .tuple #[Wk.val N, .int .i64 0] | 16 => uR = .tuple #[Wk.val N, .int .i64 0] | 17 => uR = Wk.val N | 18 => uR = .int .i64 0 | 21 => uR = .int .i64 0 | _ => True) (HvA w4 41 (default : Wk).cells.toArray 19 20 17 (fun ix wz u => True)) (by kernel_rfl) (by kernel_rfl) (by kernel_rfl) ?_ ?_ ?_
  · exact HvA.start _ _ _ _ _ _ _
  · refine ⟨?_, ?_, ?_, ?_, ?_, ?_, ?_, ?_, ?_, ?_, ?_, ?_, ?_, ?_, ?_, ?_, ?_, ?_, ?_, ?_, ?_, ?_, trivial⟩
    · intro r a w' hf hg hW hr hd K hK
      refine wpOp_of rfl rfl ?_
      have e0 : a.tmps.getD 0 undef = .slice (some ⟨b, o, none⟩) (j + 1) ca := hf.evalFree (by kernel_rfl)
      go_simp
      exact hK _ _ rfl (hW.upd 0 _ hr (by decide) (by decide) trivial)
    · intro r a w' hf hg hW hr hd K hK
      refine wpOp_of rfl rfl ?_
      have e0 : a.tmps.getD 2 undef = .int .u16 (wk : Int) := hf.evalFree (by kernel_rfl)
      go_simp
      exact hK _ _ rfl (hW.upd 1 _ hr (by decide) (by decide) trivial)
    · intro r a w' hf hg hW hr hd K hK
      refine wpOp_of rfl rfl ?_
      refine hf.depE hg hd 1 71 (by kernel_rfl) fun u0 e0 g0 h0 => ?_
      replace g0 : u0 = .int .u16 (wk : Int) := g0
      subst g0
      go_simp
      rw [IntWalk.i64_in _ (by omega)]
      exact hK _ _ rfl (hW.upd 2 _ hr (by decide) (by decide) trivial)
    · intro r a w' hf hg hW hr hd K hK
      refine wpOp_of rfl rfl ?_
      refine hf.depE hg hd 2 72 (by kernel_rfl) fun u0 e0 g0 h0 => ?_
      replace g0 : u0 = .int .i64 (wk : Int) := g0
      subst g0
      go_simp
      exact hK _ _ rfl (hW.upd 3 _ hr (by decide) (by decide) trivial)
    · intro r a w' hf hg hW hr hd K hK
      refine wpOp_of rfl rfl ?_
      have e0 : a.tmps.getD 0 undef = .slice (some ⟨b, o, none⟩) (j + 1) ca := hf.evalFree (by kernel_rfl)
      go_simp
      exact hK _ _ rfl (hW.upd 4 _ hr (by decide) (by decide) trivial)
    · intro r a w' hf hg hW hr hd K hK
      refine wpOp_of rfl rfl ?_
      have e0 : a.tmps.getD 7 undef = .int .i64 (k : Int) := hf.evalFree (by kernel_rfl)
      go_simp
      exact hK _ _ rfl (hW.upd 5 _ hr (by decide) (by decide) trivial)
    · intro r a w' hf hg hW hr hd K hK
      refine wpOp_of rfl rfl ?_
      refine hf.depE hg hd 4 74 (by kernel_rfl) fun u0 e0 g0 h0 => ?_
      replace g0 : u0 = .slice (some ⟨b, o, none⟩) (j + 1) ca := g0
      subst g0
      refine hf.depE hg hd 5 75 (by kernel_rfl) fun u1 e1 g1 h1 => ?_
      replace g1 : u1 = .int .i64 (k : Int) := g1
      subst g1
      go_simp
      exact hK _ _ rfl (hW.upd 6 _ hr (by decide) (by decide) trivial)
    · intro r a w' hf hg hW hr hd K hK
      refine wpOp_of rfl rfl ?_
      refine hf.depE hg hd 6 76 (by kernel_rfl) fun u0 e0 g0 h0 => ?_
      replace g0 : u0 = .pointer (some ⟨b, o + k * 11, none⟩) := g0
      subst g0
      go_simp
      exact hK _ _ rfl (hW.upd 7 _ hr (by decide) (by decide) trivial)
    · intro r a w' hf hg hW hr hd K hK
      refine wpOp_of rfl rfl ?_
      refine hf.depE hg hd 7 77 (by kernel_rfl) fun u0 e0 g0 h0 => ?_
      replace g0 : u0 = .pointer (some ⟨b, o + k * 11, none⟩) := g0
      subst g0
      have z0 := hW.kp.cell c0 id
      go_simp
      exact hK _ _ rfl (hW.upd 8 _ hr (by decide) (by decide) trivial)
    · intro r a w' hf hg hW hr hd K hK
      refine wpOp_of rfl rfl ?_
      have e0 : a.tmps.getD 0 undef = .slice (some ⟨b, o, none⟩) (j + 1) ca := hf.evalFree (by kernel_rfl)
      go_simp
      exact hK _ _ rfl (hW.upd 9 _ hr (by decide) (by decide) trivial)
    · intro r a w' hf hg hW hr hd K hK
      refine wpOp_of rfl rfl ?_
      have e0 : a.tmps.getD 7 undef = .int .i64 (k : Int) := hf.evalFree (by kernel_rfl)
      go_simp
      exact hK _ _ rfl (hW.upd 10 _ hr (by decide) (by decide) trivial)
    · intro r a w' hf hg hW hr hd K hK
      refine wpOp_of rfl rfl ?_
      refine hf.depE hg hd 9 79 (by kernel_rfl) fun u0 e0 g0 h0 => ?_
      replace g0 : u0 = .slice (some ⟨b, o, none⟩) (j + 1) ca := g0
      subst g0
      refine hf.depE hg hd 10 80 (by kernel_rfl) fun u1 e1 g1 h1 => ?_
      replace g1 : u1 = .int .i64 (k : Int) := g1
      subst g1
      go_simp
      exact hK _ _ rfl (hW.upd 11 _ hr (by decide) (by decide) trivial)
    · intro r a w' hf hg hW hr hd K hK
      refine wpOp_of rfl rfl ?_
      refine hf.depE hg hd 11 81 (by kernel_rfl) fun u0 e0 g0 h0 => ?_
      replace g0 : u0 = .pointer (some ⟨b, o + k * 11, none⟩) := g0
      subst g0
      go_simp
      exact hK _ _ rfl (hW.upd 12 _ hr (by decide) (by decide) trivial)
    · intro r a w' hf hg hW hr hd K hK
      refine wpOp_of rfl rfl ?_
      refine hf.depE hg hd 12 82 (by kernel_rfl) fun u0 e0 g0 h0 => ?_
      replace g0 : u0 = .pointer (some ⟨b, o + k * 11 + 1, none⟩) := g0
      subst g0
      have z0 := hW.kp.cell c1 id
      go_simp
      exact hK _ _ rfl (hW.upd 13 _ hr (by decide) (by decide) trivial)
    · intro r a w' hf hg hW hr hd K hK
      refine wpOp_of rfl rfl ?_
      refine hf.depE hg hd 3 73 (by kernel_rfl) fun u0 e0 g0 h0 => ?_
      replace g0 : u0 = .int .i64 (ak : Int) := g0
      subst g0
      have e0' := get_of_getD e0
      refine hf.depE hg hd 8 78 (by kernel_rfl) fun u1 e1 g1 h1 => ?_
      replace g1 : u1 = .int .i64 u.wk := g1
      subst g1
      have e1' := get_of_getD e1
      refine hf.depE hg hd 13 83 (by kernel_rfl) fun u2 e2 g2 h2 => ?_
      replace g2 : u2 = .int .i64 u.num := g2
      subst g2
      have e2' := get_of_getD e2
      go_simp
      exact hK _ _ rfl (hW.upd 14 _ hr (by decide) (by decide) trivial)
    · intro r a w' hf hg hW hr hd K hK
      refine wpOp_of rfl rfl ?_
      refine hf.depE hg hd 0 70 (by kernel_rfl) fun u0 e0 g0 h0 => ?_
      replace g0 : u0 = .slice (some ⟨b, o, none⟩) (j + 1) ca := g0
      subst g0
      refine hf.depE hg hd 14 84 (by kernel_rfl) fun u1 e1 g1 h1 => ?_
      replace g1 : u1 = Wk.val (undoW (ak : Int) u) := g1
      subst g1
      go_simp
      change Calls _ _ #[.slice (some ⟨b, o, none⟩) (j + 1) ca, Wk.val (undoW (ak : Int) u)] _ _
      with_reducible refine (HNX.out w' hW.kp).mono ?_
      rintro e w'' ⟨rfl, k'⟩
      exact hK _ _ rfl ((hW.call FS.out k').upd 15 _ hr (by decide) (by decide) trivial)
    · intro r a w' hf hg hW hr hd K hK
      refine wpOp_of rfl rfl ?_
      refine hf.depE hg hd 15 85 (by kernel_rfl) fun u0 e0 g0 h0 => ?_
      replace g0 : u0 = .tuple #[Wk.val N, .int .i64 0] := g0
      subst g0
      go_simp
      exact hK _ _ rfl (hW.upd 16 _ hr (by decide) (by decide) trivial)
    · intro r a w' hf hg hW hr hd K hK
      refine wpOp_of rfl rfl ?_
      refine hf.depE hg hd 16 69 (by kernel_rfl) fun u0 e0 g0 h0 => ?_
      replace g0 : u0 = .tuple #[Wk.val N, .int .i64 0] := g0
      subst g0
      go_simp
      exact hK _ _ rfl (hW.upd 17 _ hr (by decide) (by decide) trivial)
    · intro r a w' hf hg hW hr hd K hK
      refine wpOp_of rfl rfl ?_
      refine hf.depE hg hd 16 69 (by kernel_rfl) fun u0 e0 g0 h0 => ?_
      replace g0 : u0 = .tuple #[Wk.val N, .int .i64 0] := g0
      subst g0
      go_simp
      exact hK _ _ rfl (hW.upd 18 _ hr (by decide) (by decide) trivial)
    · intro r a w' hf hg hW hr hd K hK
      refine wpOp_of rfl rfl ?_
      go_simp
      exact hK _ _ trivial (hW.alloc FS.out hr (by decide) trivial)
    · intro r a w' hf hg hW hr hd K hK
      refine wpOp_of rfl rfl ?_
      refine hf.depE hg hd 19 10 (by kernel_rfl) fun u0 e0 g0 h0 => ?_
      refine hf.depE hg hd 17 86 (by kernel_rfl) fun u1 e1 g1 h1 => ?_
      replace g1 : u1 = Wk.val N := g1
      subst g1
      obtain ⟨gz, rfl, hgz, hh0⟩ := hW.b0 hr _ h0
      have hb0 : BoxW w' gz default := hh0
      obtain ⟨p0, p1, p2, p3, p4, p5, p6, p7, p8, p9, p10⟩ := hb0.at_
      have fz := hb0.free
      have f0 := fz 0
      have f1 := fz 1
      have f2 := fz 2
      have f3 := fz 3
      have f4 := fz 4
      have f5 := fz 5
      have f6 := fz 6
      have f7 := fz 7
      have f8 := fz 8
      have f9 := fz 9
      have f10 := fz 10
      simp only [Nat.zero_add] at p1 p2 p3 p4 p5 p6 p7 p8 p9 p10
      obtain ⟨hb1, hk1⟩ := hb0.put N
      simp only [Wk.val] at e1 h1
      go_simp
      exact hK undef _ trivial (hW.store h0 hgz (fun _ _ _ => trivial) (by decide) (by decide) h1 hk1 hb1 _ trivial)
    · intro r a w' hf hg hW hr hd K hK
      refine wpOp_of rfl rfl ?_
      refine hf.depE hg hd 18 87 (by kernel_rfl) fun u0 e0 g0 h0 => ?_
      replace g0 : u0 = .int .i64 0 := g0
      subst g0
      go_simp
      exact hK _ _ rfl (hW.upd 21 _ hr (by decide) (by decide) trivial)
  intro r' w5 hg hW hr'
  have hkN := hW.kp
  obtain ⟨q17, hq17⟩ : ∃ u, r' 17 = some u := Option.ne_none_iff_exists'.1 (hr' 17 (by decide))
  have hk17 := hg 17 q17 hq17
  replace hk17 : q17 = Wk.val N := hk17
  subst hk17
  obtain ⟨q21, hq21⟩ : ∃ u, r' 21 = some u := Option.ne_none_iff_exists'.1 (hr' 21 (by decide))
  have hk21 := hg 21 q21 hq21
  replace hk21 : q21 = .int .i64 0 := hk21
  subst hk21
  obtain ⟨g0, cs, hg0, hl0, hcs, hB⟩ := hW.b1 (hr' 20 (by decide))
  simp only [List.length_cons, List.length_nil, Nat.reduceAdd, List.range_succ, List.range_zero, List.nil_append, List.cons_append, List.map_cons, List.map_nil, putAll, Act.put, List.setIfInBounds_toArray, List.set_cons_succ, List.set_cons_zero, hq17, hq21, hg0, Option.getD_some]
  clear hg hW hr' FS FB hg0 hq21
  have hcsN : cs = N.cells.toArray := by
    rw [hq17] at hcs
    injection hcs with hcs
    injection hcs with hcs
    exact hcs.symm
  subst hcsN
  have hb5 : BoxW w5 g0 N := hB
  have hk5 := hk4.tr hkN
  have HB5 := Lib.hid hb5
  obtain ⟨t0, t1, t2, t3, t4, t5, t6, t7, t8, t9, t10⟩ := hb5.at_
  simp only [Nat.zero_add] at t1 t2 t3 t4 t5 t6 t7 t8 t9 t10
  clear hcs hq17 hB hb5 hkN c0 c1 hg hl0 HNX hk4
  go_wp2_with fail
  refine wp_region_each (fun ix uR => match ix with | 1 => uR = .slice (some ⟨b, o, none⟩) (j + 1) ca | 3 => uR = Wk.val N | _ => True) (Ap2 w5 41 11 (j + 1) (l.flatMap Wk.cells) (Wk.cells N)) (by kernel_rfl) (by kernel_rfl) (by kernel_rfl) ?_ ?_ ?_
  · exact Ap2.start _ _ _ _ _ _
  · refine ⟨?_, ?_, ?_, ?_, ?_, ?_, ?_, trivial⟩
    · intro r a w' hf hg hW hr hd K hK
      refine wpOp_of rfl rfl ?_
      go_simp
      exact hK _ _ trivial (hW.lay0 hr)
    · intro r a w' hf hg hW hr hd K hK
      refine wpOp_of rfl rfl ?_
      have e0 : a.tmps.getD 0 undef = .slice (some ⟨b, o, none⟩) (j + 1) ca := hf.evalFree (by kernel_rfl)
      go_simp
      exact hK _ _ rfl (hW.upd 1 _ (by decide) (by decide) (by decide) (by decide) (by decide))
    · intro r a w' hf hg hW hr hd K hK
      refine wpOp_of rfl rfl ?_
      refine hf.depE hg hd 0 88 (by kernel_rfl) fun u0 e0 _ h0 => ?_
      refine hf.depE hg hd 1 89 (by kernel_rfl) fun u1 e1 g1 _ => ?_
      replace g1 : u1 = .slice (some ⟨b, o, none⟩) (j + 1) ca := g1
      subst g1
      exact wpo_append_nil (.tmp 88) (.tmp 89) 22 rfl w5.heap.size 41 i0 (Wk.val default) 11 96 Try.underlying22 hi0 hz0 hz1 hz2 rfl (by decide) u0 0 [] e0 (hW.c0 u0 h0 hr) (some ⟨b, o, none⟩) (j + 1) ca (l.flatMap Wk.cells) e1 (by rw [flat_len wk_len, HL.out]) (fun h => (by cases h)) (rd_news (Rd.no (HX.out.no hk5) hW.kp)) (wk_one _) (by unfold maxLen; omega) (by omega) hW.kp.size (fun v' w'' ho hgr hat => hK _ _ trivial (hW.app2 hr h0 ho hgr hat))
    · intro r a w' hf hg hW hr hd K hK
      refine wpOp_of rfl rfl ?_
      have e0 : a.tmps.getD 10 undef = .pointer (some ⟨g0, 0, none⟩) := hf.evalFree (by kernel_rfl)
      have z0 := hW.kp.cell t0 id
      have z1 := hW.kp.cell t1 id
      have z2 := hW.kp.cell t2 id
      have z3 := hW.kp.cell t3 id
      have z4 := hW.kp.cell t4 id
      have z5 := hW.kp.cell t5 id
      have z6 := hW.kp.cell t6 id
      have z7 := hW.kp.cell t7 id
      have z8 := hW.kp.cell t8 id
      have z9 := hW.kp.cell t9 id
      have z10 := hW.kp.cell t10 id
      go_simp
      exact hK _ _ rfl (hW.upd 3 _ (by decide) (by decide) (by decide) (by decide) (by decide))
    · intro r a w' hf hg hW hr hd K hK
      refine wpOp_of rfl rfl ?_
      refine hf.depE hg hd 3 91 (by kernel_rfl) fun u0 e0 g0 _ => ?_
      replace g0 : u0 = Wk.val N := g0
      subst g0
      have e0' := get_of_getD e0
      simp only [Wk.val] at e0 e0'
      go_simp
      exact hK _ _ trivial (hW.lay4 hr (by rw [wk_len]; unfold maxLen; omega) rfl)
    · intro r a w' hf hg hW hr hd K hK
      refine wpOp_of rfl rfl ?_
      refine hf.depE hg hd 2 90 (by kernel_rfl) fun u0 e0 _ h0 => ?_
      refine hf.depE hg hd 4 92 (by kernel_rfl) fun u1 e1 _ h1 => ?_
      obtain ⟨gg, hu1, _, hcc, _, _⟩ := hW.c4 u1 h1 hr
      subst hu1
      exact wpo_append (.tmp 90) (.tmp 92) 22 rfl w5.heap.size 41 i0 (Wk.val default) 11 96 Try.underlying22 hi0 hz0 hz1 hz2 rfl (by decide) u0 (j + 1) (l.flatMap Wk.cells) e0 (hW.c2 u0 h0 hr) ⟨gg, 0, none⟩ 1 1 (Wk.cells N) e1 rfl (fun j x hj => by rw [add_at, Nat.zero_add]; exact hcc j x hj) (cells_one N) (by unfold maxLen; omega) (by omega) hW.kp.size (fun v' w'' ho hgr _ => hK _ _ trivial (hW.app5 hr h0 (by rw [h1]; simp) ho hgr))
    · intro r a w' hf hg hW hr hd K hK
      refine wpOp_of rfl rfl ?_
      refine hf.depE hg hd 5 93 (by kernel_rfl) fun u0 e0 _ h0 => ?_
      go_simp
      exact hK _ _ trivial (hW.upd6 h0)
  intro r' w6 hg hW hr'
  obtain ⟨vR, hvR, hoR, hkR, hq6⟩ := hW.fin (hr' 5 (by decide))
  obtain ⟨q6, hqq⟩ : ∃ u, r' 6 = some u := Option.ne_none_iff_exists'.1 (hr' 6 (by decide))
  obtain rfl := hq6 q6 hqq
  simp only [List.length_cons, List.length_nil, Nat.reduceAdd, List.range_succ, List.range_zero, List.nil_append, List.cons_append, List.map_cons, List.map_nil, putAll, Act.put, List.setIfInBounds_toArray, List.set_cons_succ, List.set_cons_zero, hqq, Option.getD_some]
  clear hg hW hr' hq6 hvR hqq
  have hk6 := hk5.tr hkR
  have HB6 := Lib.hid (HB5.out.kp hkR id)
  obtain ⟨one, hone⟩ : ∃ one, one = l ++ [N] := ⟨_, rfl⟩
  have hro : w6.ownsRow w5.heap.size 41 11 q6 (j + 1 + 1) (one.flatMap Wk.cells) := by rw [hone, flat_snoc]; exact hoR
  have HONE := Lib.hid hone
  obtain ⟨A1, c1, rfl, _, _, _⟩ := own_form hro
  have hr1 : RdW w6 A1 (j + 1 + 1) one := Rd.of_own wk_len (by omega) hro
  have HN1 := Lib.hid (own_news hro).1
  have HL1 := Lib.hid hr1.1
  have hf1 : Fits one := by
    rw [hone]
    intro v hv
    rcases List.mem_append.1 hv with hv | hv
    · exact HF.out v hv
    · simp at hv
      rw [hv, HNN.out]
      show (ByteArray.mk #[]).size ≤ maxLen
      decide
  have HF1 := Lib.hid hf1
  have HR16 := Lib.hid hr1
  have hR1 : Rec one := by rw [hone]; exact HUO.out.2.1
  have hck1 : ckAt one (j + 1 + 1) = N.ck + 1 := by
    show (match one[j + 1]? with | some u => u.ck + 1 | none => 1) = _
    rw [hone, List.getElem?_append_right (by rw [HL.out]; omega), HL.out]
    simp
  have hNck : N.ck = ckAt l (j + 1) := by rw [HNN.out]; show ckAt l l.length = _; rw [HL.out]
  have hN1 : one[j + 1]? = some N := by rw [hone, List.getElem?_append_right (by rw [HL.out]; omega), HL.out]; simp
  have hua2 := undo_ok hR1 (by rw [HL1.out]; omega) (by rw [HL1.out, hck1, hNck]; have := HC4.out; omega) (a := (ak : Int)) ⟨by omega, by omega⟩ hN1
  obtain ⟨N2, hN2⟩ : ∃ N2, N2 = undoN one (ak : Int) N := ⟨_, rfl⟩
  rw [← hN2] at hua2
  have HNN2 := Lib.hid hN2
  have HUO2 := Lib.hid hua2
  have NX := Next_any A1 (j + 1 + 1) c1 one (undoW (ak : Int) N) w6 hr1 hf1 (by show (ByteArray.mk #[]).size ≤ maxLen; decide)
  rw [hua2.1] at NX
  obtain ⟨y0, y1, y2, y3, y4, y5, y6, y7, y8, y9, y10⟩ := HB6.out.at_
  simp only [Nat.zero_add] at y1 y2 y3 y4 y5 y6 y7 y8 y9 y10
  clear t0 t1 t2 t3 t4 t5 t6 t7 t8 t9 t10 hoR hkR hro hr1 hf1 hR1 hck1 hNck hN1 hua2 hN2 HB5 hk5 hone
  go_wp2_with fail
  change Calls _ _ #[.slice A1 (j + 1 + 1) c1, Wk.val (undoW (ak : Int) N)] _ _
  with_reducible refine NX.mono ?_
  rintro e w7 ⟨rfl, hk67⟩
  have hk7 := hk6.tr hk67
  clear NX y0 y1 y2 y3 y4 y5 y6 y7 y8 y9 y10
  simp only [Wk.val]
  have HCEL := Lib.hid (show (.cells #[.int .i64 N2.wk, .int .i64 N2.num, .int .i64 N2.ck, .int .i64 N2.kd, .int .i64 N2.rk, .int .i64 N2.nt, .int .i64 N2.fd, .int .i64 N2.vl, .int .i64 N2.ow, .int .i64 N2.on, .string N2.tx] 41 : Obj) = .cells N2.cells.toArray 41 from rfl)
  go_wp2_with fail
  rw [HCEL.out]
  have hk8 : Kp No w (w7.alloc (.cells N2.cells.toArray 41)) := hk7.tr (Kp.alloc _ _ _)
  have hk68 : Kp No w6 (w7.alloc (.cells N2.cells.toArray 41)) := hk67.tr (Kp.alloc _ _ _)
  have hb8 : BoxW (w7.alloc (.cells N2.cells.toArray 41)) w7.heap.size N2 := heap_alloc_new _ _
  generalize w7.alloc (.cells N2.cells.toArray 41) = w8 at hk8 hk68 hb8 ⊢
  obtain ⟨g2, hg2⟩ : ∃ g2, g2 = w7.heap.size := ⟨_, rfl⟩
  rw [← hg2] at hb8 ⊢
  have HRW8 := Lib.hid (HR16.out.no hk68)
  have HK8 := Lib.hid hk8
  obtain ⟨t0, t1, t2, t3, t4, t5, t6, t7, t8, t9, t10⟩ := hb8.at_
  simp only [Nat.zero_add] at t1 t2 t3 t4 t5 t6 t7 t8 t9 t10
  clear hk67 hk7 hk6 hk68 hk8 hb8 hg2 HR16 HB6 HCEL
  refine wp_region_each (fun ix uR => match ix with | 1 => uR = .slice A1 (j + 1 + 1) c1 | 3 => uR = Wk.val N2 | _ => True) (Ap2 w8 41 11 (j + 1 + 1) (one.flatMap Wk.cells) (Wk.cells N2)) (by kernel_rfl) (by kernel_rfl) (by kernel_rfl) ?_ ?_ ?_
  · exact Ap2.start _ _ _ _ _ _
  · refine ⟨?_, ?_, ?_, ?_, ?_, ?_, ?_, trivial⟩
    · intro r a w' hf hg hW hr hd K hK
      refine wpOp_of rfl rfl ?_
      go_simp
      exact hK _ _ trivial (hW.lay0 hr)
    · intro r a w' hf hg hW hr hd K hK
      refine wpOp_of rfl rfl ?_
      have e0 : a.tmps.getD 11 undef = .slice A1 (j + 1 + 1) c1 := hf.evalFree (by kernel_rfl)
      go_simp
      exact hK _ _ rfl (hW.upd 1 _ (by decide) (by decide) (by decide) (by decide) (by decide))
    · intro r a w' hf hg hW hr hd K hK
      refine wpOp_of rfl rfl ?_
      refine hf.depE hg hd 0 107 (by kernel_rfl) fun u0 e0 _ h0 => ?_
      refine hf.depE hg hd 1 108 (by kernel_rfl) fun u1 e1 g1 _ => ?_
      replace g1 : u1 = .slice A1 (j + 1 + 1) c1 := g1
      subst g1
      exact wpo_append_nil (.tmp 107) (.tmp 108) 22 rfl w8.heap.size 41 i0 (Wk.val default) 11 96 Try.underlying22 hi0 hz0 hz1 hz2 rfl (by decide) u0 0 [] e0 (hW.c0 u0 h0 hr) A1 (j + 1 + 1) c1 (one.flatMap Wk.cells) e1 (by rw [flat_len wk_len, HL1.out]) HN1.out (rd_news (Rd.no HRW8.out hW.kp)) (wk_one _) (by unfold maxLen; omega) (by omega) hW.kp.size (fun v' w'' ho hgr hat => hK _ _ trivial (hW.app2 hr h0 ho hgr hat))
    · intro r a w' hf hg hW hr hd K hK
      refine wpOp_of rfl rfl ?_
      have e0 : a.tmps.getD 12 undef = .pointer (some ⟨g2, 0, none⟩) := hf.evalFree (by kernel_rfl)
      have z0 := hW.kp.cell t0 id
      have z1 := hW.kp.cell t1 id
      have z2 := hW.kp.cell t2 id
      have z3 := hW.kp.cell t3 id
      have z4 := hW.kp.cell t4 id
      have z5 := hW.kp.cell t5 id
      have z6 := hW.kp.cell t6 id
      have z7 := hW.kp.cell t7 id
      have z8 := hW.kp.cell t8 id
      have z9 := hW.kp.cell t9 id
      have z10 := hW.kp.cell t10 id
      go_simp
      exact hK _ _ rfl (hW.upd 3 _ (by decide) (by decide) (by decide) (by decide) (by decide))
    · intro r a w' hf hg hW hr hd K hK
      refine wpOp_of rfl rfl ?_
      refine hf.depE hg hd 3 110 (by kernel_rfl) fun u0 e0 g0 _ => ?_
      replace g0 : u0 = Wk.val N2 := g0
      subst g0
      have e0' := get_of_getD e0
      simp only [Wk.val] at e0 e0'
      go_simp
      exact hK _ _ trivial (hW.lay4 hr (by rw [wk_len]; unfold maxLen; omega) rfl)
    · intro r a w' hf hg hW hr hd K hK
      refine wpOp_of rfl rfl ?_
      refine hf.depE hg hd 2 109 (by kernel_rfl) fun u0 e0 _ h0 => ?_
      refine hf.depE hg hd 4 111 (by kernel_rfl) fun u1 e1 _ h1 => ?_
      obtain ⟨gg, hu1, _, hcc, _, _⟩ := hW.c4 u1 h1 hr
      subst hu1
      exact wpo_append (.tmp 109) (.tmp 111) 22 rfl w8.heap.size 41 i0 (Wk.val default) 11 96 Try.underlying22 hi0 hz0 hz1 hz2 rfl (by decide) u0 (j + 1 + 1) (one.flatMap Wk.cells) e0 (hW.c2 u0 h0 hr) ⟨gg, 0, none⟩ 1 1 (Wk.cells N2) e1 rfl (fun j x hj => by rw [add_at, Nat.zero_add]; exact hcc j x hj) (cells_one N2) (by unfold maxLen; omega) (by omega) hW.kp.size (fun v' w'' ho hgr _ => hK _ _ trivial (hW.app5 hr h0 (by rw [h1]; simp) ho hgr))
    · intro r a w' hf hg hW hr hd K hK
      refine wpOp_of rfl rfl ?_
      refine hf.depE hg hd 5 112 (by kernel_rfl) fun u0 e0 _ h0 => ?_
      go_simp
      exact hK _ _ trivial (hW.upd6 h0)
  intro r' w9 hg hW hr'
  obtain ⟨vR, hvR, hoR, hkR, hq6⟩ := hW.fin (hr' 5 (by decide))
  obtain ⟨q6, hqq⟩ : ∃ u, r' 6 = some u := Option.ne_none_iff_exists'.1 (hr' 6 (by decide))
  obtain rfl := hq6 q6 hqq
  simp only [List.length_cons, List.length_nil, Nat.reduceAdd, List.range_succ, List.range_zero, List.nil_append, List.cons_append, List.map_cons, List.map_nil, putAll, Act.put, List.setIfInBounds_toArray, List.set_cons_succ, List.set_cons_zero, hqq, Option.getD_some]
  clear hg hW hr' hq6 hvR hqq
  have hk9 := HK8.out.tr hkR
  obtain ⟨two, htwo⟩ : ∃ two, two = one ++ [N2] := ⟨_, rfl⟩
  have hro : w9.ownsRow w8.heap.size 41 11 q6 (j + 1 + 1 + 1) (two.flatMap Wk.cells) := by rw [htwo, flat_snoc]; exact hoR
  have HTWO := Lib.hid htwo
  obtain ⟨A2, c2, rfl, _, _, _⟩ := own_form hro
  have hr2 : RdW w9 A2 (j + 1 + 1 + 1) two := Rd.of_own wk_len (by omega) hro
  have HL2 := Lib.hid hr2.1
  have hf2 : Fits two := by
    rw [htwo]
    intro v hv
    rcases List.mem_append.1 hv with hv | hv
    · exact HF1.out v hv
    · simp at hv
      rw [hv, HNN2.out]
      show (ByteArray.mk #[]).size ≤ maxLen
      decide
  have HRW9 := Lib.hid (HRW8.out.no hkR)
  have HR1 := Lib.hid (show Rec one by rw [HONE.out]; exact HUO.out.2.1)
  have HR2 := Lib.hid (show Rec two by rw [htwo]; exact HUO2.out.2.1)
  have SA := fun w' (kk : Kp No w w') => State_any (some ⟨b, o, none⟩) (j + 1) ca l w' (HX.out.no kk) HF.out
  have SB := fun w' (kk : Kp No w9 w') => State_any A1 (j + 1 + 1) c1 one w' (HRW9.out.no kk) HF1.out
  have SC := fun w' (kk : Kp No w9 w') => State_any A2 (j + 1 + 1 + 1) c2 two w' (hr2.no kk) hf2
  simp only [StRes, HC1.out, rec_chk HR1.out, rec_chk HR2.out, if_true] at SA SB SC
  have HSA := Lib.hid SA
  have HSB := Lib.hid SB
  have HSC := Lib.hid SC
  have LC := fun w' (kk : Kp No w w') => lcount_any (some ⟨b, o, none⟩) (j + 1) ca l (k : Int) w' (HX.out.no kk) (by omega)
  have HLC := Lib.hid LC
  clear t0 t1 t2 t3 t4 t5 t6 t7 t8 t9 t10 hoR hkR hro hr2 hf2 htwo SA SB SC LC
  go_wp2_with fail
  with_reducible refine (HSA.out w9 hk9).mono ?_
  rintro e wa ⟨va, sa, rfl, hsa, hoa, hka⟩
  obtain ⟨Aa, ca', rfl, _, _, _⟩ := own_form hoa
  have HSa := Lib.hid hsa
  have HPa := Lib.hid (show RdP wa Aa sa.length sa from Rd.of_own pv_len (by omega) hoa)
  have HKa := Lib.hid hka
  clear hsa hoa hka
  go_wp2_with fail
  with_reducible refine (HSB.out wa HKa.out).mono ?_
  rintro e wb ⟨vb, sb, rfl, hsb, hob, hkb⟩
  obtain ⟨Ab, cb, rfl, _, _, _⟩ := own_form hob
  have HSb := Lib.hid hsb
  have HPb := Lib.hid (show RdP wb Ab sb.length sb from Rd.of_own pv_len (by omega) hob)
  have HKab := Lib.hid hkb
  have HKb := Lib.hid (HKa.out.tr hkb)
  clear hsb hob hkb
  go_wp2_with fail
  with_reducible refine (HSC.out wb HKb.out).mono ?_
  rintro e wc ⟨vc, sc, rfl, hsc, hoc, hkc⟩
  obtain ⟨Ac, cc, rfl, _, _, _⟩ := own_form hoc
  have HSc := Lib.hid hsc
  have HPc := Lib.hid (show RdP wc Ac sc.length sc from Rd.of_own pv_len (by omega) hoc)
  have HKbc := Lib.hid hkc
  have HKc := Lib.hid (HKb.out.tr hkc)
  clear hsc hoc hkc
  have hkc9 : Kp No w9 wc := HKc.out
  have hkcw : Kp No w wc := hk9.tr hkc9
  have HKW := Lib.hid hkcw
  have hN4 : N.kd = 4 := by rw [HNN.out]; rfl
  have hN24 : N2.kd = 4 := by rw [HNN2.out]; rfl
  have hlN : Names l := HR.out.names
  have hRoN : Rec (l ++ [N]) := HUO.out.2.1
  have hcw1 : cws one = cwsB l (lawL l k) l.length := by rw [HONE.out]; exact cws_one hlN hRoN hN4 (by rw [HL.out]; exact hkn) HUO.out.2.2
  have hcw2 : cws two = cws l := by
    have hR2 := HR2.out
    have ht2 := HUO2.out.2.2
    rw [HTWO.out, HONE.out] at hR2
    rw [HONE.out] at ht2
    have ht3 : tgt (l ++ [N] ++ [N2]) (l ++ [N]).length = some l.length := by rw [HL.out]; exact ht2
    rw [HTWO.out, HONE.out]
    exact cws_two hR2 hlN hN4 hN24 HUO.out.2.2 ht3
  rw [HL.out] at hcw1
  have hIS : IsSt (cwsB l (lawL l k) (j + 1)) sb := by rw [← hcw1]; exact HSb.out
  have HIS := Lib.hid hIS
  have hac : sa = sc := isSt_uniq HSa.out (by rw [← hcw2]; exact HSc.out)
  have HAC := Lib.hid hac
  have hsb : sb.length ≤ 1000 := by
    have h1 := nodup_lenP (sb.map Pv.p) ((cwsB l (lawL l k) (j + 1)).map Wk.pp) (by
      rw [List.nodup_iff_pairwise_ne, List.pairwise_map]
      exact HIS.out.1.imp fun {x y} h e => by rw [e, ltP_irr] at h; cases h) fun p hp => by
        obtain ⟨v, hv, rfl⟩ := List.mem_map.1 hp
        obtain ⟨u, hu, e⟩ := stOf_some.1 (by rw [(HIS.out.2 v).1 hv]; rfl : (stOf (cwsB l (lawL l k) (j + 1)) v.p).isSome = true)
        exact List.mem_map.2 ⟨u, hu, e⟩
    rw [List.length_map, List.length_map] at h1
    have h2 : (cwsB l (lawL l k) (j + 1)).length ≤ j + 1 := by unfold cwsB; exact Nat.le_trans (List.length_filterMap_le _ _) (by simp)
    omega
  have hsa : sa.length ≤ 100000000 := by
    have h1 := nodup_lenP (sa.map Pv.p) ((cws l).map Wk.pp) (by
      rw [List.nodup_iff_pairwise_ne, List.pairwise_map]
      exact HSa.out.1.imp fun {x y} h e => by rw [e, ltP_irr] at h; cases h) fun p hp => by
        obtain ⟨v, hv, rfl⟩ := List.mem_map.1 hp
        obtain ⟨u, hu, e⟩ := stOf_some.1 (by rw [(HSa.out.2 v).1 hv]; rfl : (stOf (cws l) v.p).isSome = true)
        exact List.mem_map.2 ⟨u, hu, e⟩
    rw [List.length_map, List.length_map] at h1
    have h2 : (cws l).length ≤ l.length := by unfold cws cntL; rw [List.length_map]; exact cntU_len l l.length
    have := HL.out
    omega
  have HSB2 := Lib.hid hsb
  have HSA2 := Lib.hid hsa
  clear hkc9 hkcw hN4 hN24 hlN hRoN hcw1 hcw2 hIS hac hsb hsa
  go_wp2_with fail
  with_reducible refine (HLC.out wc HKW.out).mono ?_
  rintro e wd ⟨G2, rfl, hoc, hkd⟩
  have hcs : RdB wd (some ⟨G2, 0, none⟩) (j + 1) (lawL l k) := by
    refine ⟨by unfold lawL; rw [lawAt_len, HL.out], fun i x hi => ⟨G2, 0, rfl, (own_ge hoc (g := G2) rfl).2, ?_⟩⟩
    rw [Nat.zero_add]
    exact own_cell hoc (by rw [List.getElem?_map, hi]; rfl)
  have hH := holds_any Ab (some ⟨b, o, none⟩) (some ⟨G2, 0, none⟩) sb.length (j + 1) cb ca (j + 1) sb l (lawL l k) wd (HPb.out.no (HKbc.out.tr hkd)) (HX.out.no (HKW.out.tr hkd)) hcs HSB2.out (by omega) HR.out.ok (fun v hv => (HIS.out.2 v).1 hv) (fun i u hu hc h4 => by
    have hkl := (List.getElem?_eq_some_iff.1 hu).1
    have hm := mem_cwsB (n := j + 1) (by have := HL.out; omega) hu hc h4
    have hsome := stOf_some.2 ⟨u, hm, rfl⟩
    cases hv : stOf (cwsB l (lawL l k) (j + 1)) u.pp with
    | none => rw [hv] at hsome; cases hsome
    | some v =>
      have hp := stOf_p hv
      refine ⟨v, (HIS.out.2 v).2 (by rw [hp]; exact hv), hp⟩)
  have HH := Lib.hid hH
  have HKd := Lib.hid hkd
  clear hoc hcs hkd hH
  go_wp2_with fail
  with_reducible refine HH.out.mono ?_
  rintro e we ⟨rfl, hke⟩
  have HKe := Lib.hid hke
  have hS := sameS_any Aa Ac sa.length sc.length ca' cc sa sc we (HPa.out.no (HKab.out.tr (HKbc.out.tr (HKd.out.tr hke)))) (HPc.out.no (HKd.out.tr hke)) HSA2.out
  rw [decide_eq_true HAC.out] at hS
  have HS := Lib.hid hS
  clear hke hS
  go_wp2_with fail
  with_reducible refine HS.out.mono ?_
  rintro e wf ⟨rfl, hkf⟩
  have HKf := Lib.hid hkf
  clear hkf
  go_wp2_with fail
  with_reducible refine (FIN.out wf (HKW.out.tr (HKd.out.tr (HKe.out.tr HKf.out)))).mono ?_
  rintro e wg ⟨rfl, hkg⟩
  go_wp2_with fail
  go_ret
  exact ⟨rfl, hkg⟩
theorem tundo_any (A : Option Addr) (n ca : Nat) (l : List Wk) (p q : Nat) (w : World) (hx : RdW w A n l) (fa : Fits l) (hca : n ≤ ca) (nA : A = none → n = 0 ∧ ca = 0) (hp : p < 65536) (hq : q < 65536) :
    Calls Try.prog 7 #[.slice A n ca, .int .u16 (p : Int), .int .u16 (q : Int)] w fun e w' => e = .returned (.bool true) ∧ Kp No w w' := by
  by_cases hbad : chkL l ≠ 0 ∨ n = 0 ∨ 398 < n ∨ 999999998 < ckAt l n - 1
  · exact tundo_bad A n ca l p q w hx fa hca hbad
  obtain ⟨j, rfl⟩ : ∃ j, n = j + 1 := ⟨n - 1, by omega⟩
  exact tundo_ok A j ca l p q w hx fa hca nA (by omega) (by omega) (by omega) hp hq
end Go.Proofs.Ytjbpdimepckmfaa
