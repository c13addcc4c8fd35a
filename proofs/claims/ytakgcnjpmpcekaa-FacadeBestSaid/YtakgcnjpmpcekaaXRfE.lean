/- Chapter 24: the document's Mirrored. Printed by gen_rfe.py. -/
import Derived.Test.YtakgcnjpmpcekaaXRfD
import Derived.Test.YtakgcnjpmpcekaaXAnB
import Derived.Test.YtakgcnjpmpcekaaXLibHmM
namespace Go.Proofs.Ytakgcnjpmpcekaa
open Go.RowKit Go.Kq

/-- Numbers that can be read. -/
def RwF (n : Nat) (L : List Int) (w : World) (u : Value) : Prop := ∃ B c, u = .slice B n c ∧ RdI .i64 w B n L
theorem RwF.no {n : Nat} {L : List Int} {w w' : World} {u : Value} (h : RwF n L w u) (k : Kp No w w') : RwF n L w' u := by
  obtain ⟨B, c, h1, h2⟩ := h
  exact ⟨B, c, h1, h2.no k⟩
set_option maxHeartbeats 8000000 in
set_option maxRecDepth 100000 in
theorem rMirrored_any (g : Nat) (A B : Option Addr) (n ca N cb : Nat) (l : List Fc) (plan : List (List Int)) (w : World) (hA : RdF w A n l) (hB : RdL g w B N plan) (hN : N ≤ 20) (hb : ∀ S ∈ plan, S.length ≤ 70) :
    Calls Try.prog 22 #[.slice A n ca, .slice B N cb] w fun e w' => e = .returned (.tuple #[.bool (mirG l plan), .int .i64 (mirE l plan)]) ∧ Kp No w w' := by
  have CK := Lib.hid (rCheck_any A n ca l w hA)
  have PL := Lib.hid (fun w0 (k : Kp No w w0) => rplanned_any g B A N cb n ca (-1) plan w0 (hB.no k) hN hb)
  have HB := Lib.hid hB
  have HLA := Lib.hid hA.1
  have HLB := Lib.hid hB.1
  have HSB := Lib.hid hb
  have HME := Lib.hid (show mirE l plan = if chkF l ≠ 0 then chkF l else plaE n plan (-1) by unfold mirE; rw [HLA.out])
  have HMG := Lib.hid (show mirG l plan = if mirE l plan = 0 then mirB l plan else false from rfl)
  clear hA hB hb
  by_cases hc : chkF l = 0
  rotate_left
  · have HE := Lib.hid (show mirE l plan = chkF l by rw [HME.out, if_pos hc])
    have HG := Lib.hid (show mirG l plan = false by rw [HMG.out, if_neg (by rw [HE.out]; exact hc)])
    rw [HE.out, HG.out]
    have hne : (chkF l == 0) = false := by simp [hc]
    have hne2 : (chkF l != 0) = true := by simp [hc]
    generalize chkF l = E at *
    clear hc
    go_enter Try.func22, Try.ntmps22
    go_wp2_with fail
    with_reducible refine CK.out.mono ?_
    rintro e w1 ⟨rfl, k1⟩
    go_wp2_with fail
    go_ret2
    exact ⟨rfl, k1⟩
  have HC := Lib.hid hc
  rw [hc] at CK
  by_cases hq : plaE n plan (-1) = 0
  rotate_left
  · have HE := Lib.hid (show mirE l plan = plaE n plan (-1) by rw [HME.out, if_neg (fun h => h hc)])
    have HG := Lib.hid (show mirG l plan = false by rw [HMG.out, if_neg (by rw [HE.out]; exact hq)])
    rw [HE.out, HG.out]
    have hne2 : (plaE n plan (-1) != 0) = true := by simp [hq]
    generalize plaE n plan (-1) = E at *
    clear hc hq
    go_enter Try.func22, Try.ntmps22
    go_wp2_with fail
    with_reducible refine CK.out.mono ?_
    rintro e w1 ⟨rfl, k1⟩
    go_wp2_with fail
    with_reducible refine (PL.out _ k1).mono ?_
    rintro e w2 ⟨rfl, hw2⟩
    subst hw2
    go_wp2_with fail
    go_ret2
    exact ⟨rfl, k1⟩
  rw [hq] at PL
  have HE := Lib.hid (show mirE l plan = 0 by rw [HME.out, if_neg (fun h => h hc), hq])
  have HG := Lib.hid (show mirG l plan = mirB l plan by rw [HMG.out, if_pos HE.out])
  rw [HE.out, HG.out]
  have hNn : N = n := by
    rw [← HLB.out]
    unfold plaE at hq
    split at hq
    · cases hq
    · omega
  have hn12 : n ≤ 12 := by rw [← HLA.out]; exact (chk_ok hc).1
  subst hNn
  have HST := Lib.hid (fun k (hk : k < N / 2) (h : mirS l plan k = false) => mir_stop (l := l) (plan := plan) (k := k) (by rw [HLA.out]; exact hk) h)
  have HAL := Lib.hid (show mirB l plan = (List.range (N / 2)).all (mirS l plan) by
    have e : mirB l plan = (List.range (l.length / 2)).all (mirS l plan) := rfl
    rw [e, HLA.out])
  clear hc hq HME HMG HC HG HE
  generalize mirB l plan = MB at *
  go_enter Try.func22, Try.ntmps22
  go_wp2_with fail
  with_reducible refine CK.out.mono ?_
  rintro e w1 ⟨rfl, k1⟩
  go_wp2_with fail
  with_reducible refine (PL.out _ k1).mono ?_
  rintro e w3 ⟨rfl, hw3⟩
  subst hw3
  have HK := Lib.hid k1
  clear k1 CK PL
  obtain ⟨M, hM⟩ : ∃ M, M = N / 2 := ⟨_, rfl⟩
  have hMi : (N : Int) / 2 = (M : Int) := by omega
  have hM6 : M ≤ 6 := by omega
  have HM2 := Lib.hid (show 2 * M ≤ N by omega)
  rw [← hM] at HST HAL
  clear hM
  go_wp2_with fail
  go_loopw [7] (fun i wr => ∃ k : Nat, k ≤ M ∧ i = .int .i64 (k : Nat) ∧ (List.range k).all (mirS l plan) = true ∧ Kp No w wr) (fun i _ => M - (intOf i).toNat)
  case atStart => exact ⟨0, by omega, rfl, rfl, HK.out⟩
  case round =>
    clear HK
    obtain ⟨k, hk, rfl, hno, hkp⟩ := hrel
    have HN := Lib.hid hno
    have HK := Lib.hid hkp
    clear hno hkp
    by_cases hlt : k < M
    · have h2 := HM2.out
      obtain ⟨i2, hi2⟩ : ∃ i2, i2 = N - 1 - k := ⟨_, rfl⟩
      have hi2N : i2 < N := by omega
      obtain ⟨S, hS⟩ : ∃ S, plan[k]? = some S := ⟨_, List.getElem?_eq_getElem (by rw [HLB.out]; omega)⟩
      obtain ⟨T, hT⟩ : ∃ T, plan[i2]? = some T := ⟨_, List.getElem?_eq_getElem (by rw [HLB.out]; omega)⟩
      obtain ⟨b0, o0, A1, n1, c1, rfl, hb1, hcS, _, r1, _⟩ := (HB.out.no HK.out).2 k S hS
      obtain ⟨b', o', A2, n2, c2, hbo, hb2, hcT, _, r2, _⟩ := (HB.out.no HK.out).2 i2 T hT
      injection hbo with hbo
      injection hbo with e1 e2
      subst e1 e2
      have hS70 := HSB.out S (List.mem_of_getElem? hS)
      have hT70 := HSB.out T (List.mem_of_getElem? hT)
      rw [r1.1] at hS70
      rw [r2.1] at hT70
      have HN1 := Lib.hid (show (cI (anewN S)).length = n1 by rw [cI_len]; unfold anewN; rw [List.length_map, r1.1])
      have HN2 := Lib.hid (show (cI (anewN T)).length = n2 by rw [cI_len]; unfold anewN; rw [List.length_map, r2.1])
      have A1C := Lib.hid (fun w0 (k0 : Kp No wr w0) => ranew_any A1 n1 c1 S w0 (r1.no k0) (by omega))
      have A2C := Lib.hid (fun w0 (k0 : Kp No wr w0) => ranew_any A2 n2 c2 T w0 (r2.no k0) (by omega))
      have HSD := Lib.hid (show mirS l plan k = decide (anewN S = (anewN T).reverse) by
        unfold mirS
        rw [HLA.out, ← hi2, List.getD_eq_getElem?_getD, List.getD_eq_getElem?_getD, hS, hT]
        rfl)
      have hbl := hb1.2
      have q1 : IntKind.i64.wrap ((N : Int) - 1) = (N : Int) - 1 := by rw [IntKind.wrap_i64]; omega
      have q2 : IntKind.i64.wrap ((N : Int) - 1 - (k : Int)) = (i2 : Int) := by rw [IntKind.wrap_i64]; omega
      have q5 : k < N := by omega
      clear hS hT r1 r2 hb1 hb2 hi2
      go_wp2_with fail
      have FS : Stab (fun ix wz u => (ix = 4 → RwF n1 (cI (anewN S)) wz u) ∧ (ix = 13 → RwF n2 (cI (anewN T)) wz u) ∧ (ix = 14 → RwF n2 (cI (anewN T)).reverse wz u) ∧ (ix = 15 → RwF n1 (cI (anewN S)) wz u) ∧ (ix = 16 → RwF n2 (cI (anewN T)).reverse wz u) ∧ True) := fun ix u wz wz' kz h => ⟨fun e => RwF.no (h.1 e) kz, fun e => RwF.no (h.2.1 e) kz, fun e => RwF.no (h.2.2.1 e) kz, fun e => RwF.no (h.2.2.2.1 e) kz, fun e => RwF.no (h.2.2.2.2.1 e) kz, trivial⟩
      replace FS := Lib.hid FS
      refine wp_region_each (fun ix uR => match ix with | 0 => uR = .slice (some ⟨b0, o0, none⟩) N cb | 1 => uR = .int .i64 (k : Nat) | 2 => uR = .pointer (some ⟨b0, o0 + k, none⟩) | 3 => uR = .slice A1 n1 c1 | 5 => uR = .slice (some ⟨b0, o0, none⟩) N cb | 6 => uR = .slice A N ca | 7 => uR = .int .i64 (N : Nat) | 8 => uR = .int .i64 ((N : Int) - 1) | 9 => uR = .int .i64 (k : Nat) | 10 => uR = .int .i64 (i2 : Nat) | 11 => uR = .pointer (some ⟨b0, o0 + i2, none⟩) | 12 => uR = .slice A2 n2 c2 | _ => True) (HvW wr (fun ix wz u => (ix = 4 → RwF n1 (cI (anewN S)) wz u) ∧ (ix = 13 → RwF n2 (cI (anewN T)) wz u) ∧ (ix = 14 → RwF n2 (cI (anewN T)).reverse wz u) ∧ (ix = 15 → RwF n1 (cI (anewN S)) wz u) ∧ (ix = 16 → RwF n2 (cI (anewN T)).reverse wz u) ∧ True)) (by kernel_rfl) (by kernel_rfl) (by kernel_rfl) ?_ ?_ ?_
      · exact HvW.start _ _
      · refine ⟨?_, ?_, ?_, ?_, ?_, ?_, ?_, ?_, ?_, ?_, ?_, ?_, ?_, ?_, ?_, ?_, ?_, trivial⟩
        · intro r a w' hf hg hW hr hd K hK
          refine wpOp_of rfl rfl ?_
          have e0 : a.tmps.getD 1 undef = .slice (some ⟨b0, o0, none⟩) N cb := hf.evalFree (by kernel_rfl)
          go_simp
          exact hK _ _ rfl (hW.upd 0 _ ⟨fun e => absurd e (by decide), fun e => absurd e (by decide), fun e => absurd e (by decide), fun e => absurd e (by decide), fun e => absurd e (by decide), trivial⟩)
        · intro r a w' hf hg hW hr hd K hK
          refine wpOp_of rfl rfl ?_
          have e0 : a.tmps.getD 7 undef = .int .i64 (k : Nat) := hf.evalFree (by kernel_rfl)
          go_simp
          exact hK _ _ rfl (hW.upd 1 _ ⟨fun e => absurd e (by decide), fun e => absurd e (by decide), fun e => absurd e (by decide), fun e => absurd e (by decide), fun e => absurd e (by decide), trivial⟩)
        · intro r a w' hf hg hW hr hd K hK
          refine wpOp_of rfl rfl ?_
          refine hf.depE hg hd 0 28 (by kernel_rfl) fun u0 e0 g0 h0 => ?_
          replace g0 : u0 = .slice (some ⟨b0, o0, none⟩) N cb := g0
          subst g0
          refine hf.depE hg hd 1 29 (by kernel_rfl) fun u1 e1 g1 h1 => ?_
          replace g1 : u1 = .int .i64 (k : Nat) := g1
          subst g1
          go_simp
          exact hK _ _ rfl (hW.upd 2 _ ⟨fun e => absurd e (by decide), fun e => absurd e (by decide), fun e => absurd e (by decide), fun e => absurd e (by decide), fun e => absurd e (by decide), trivial⟩)
        · intro r a w' hf hg hW hr hd K hK
          refine wpOp_of rfl rfl ?_
          refine hf.depE hg hd 2 30 (by kernel_rfl) fun u0 e0 g0 h0 => ?_
          replace g0 : u0 = .pointer (some ⟨b0, o0 + k, none⟩) := g0
          subst g0
          have z0 := hW.kp.cell hcS id
          go_simp
          exact hK _ _ rfl (hW.upd 3 _ ⟨fun e => absurd e (by decide), fun e => absurd e (by decide), fun e => absurd e (by decide), fun e => absurd e (by decide), fun e => absurd e (by decide), trivial⟩)
        · intro r a w' hf hg hW hr hd K hK
          refine wpOp_of rfl rfl ?_
          refine hf.depE hg hd 3 31 (by kernel_rfl) fun u0 e0 g0 h0 => ?_
          replace g0 : u0 = .slice A1 n1 c1 := g0
          subst g0
          go_simp
          with_reducible refine (A1C.out _ hW.kp).mono ?_
          rintro e w'' ⟨B9, d9, rfl, ho, k0⟩
          exact hK _ _ trivial ((hW.call FS.out k0).upd 4 _ ⟨fun _ => ⟨B9, d9, rfl, own_rdi ho HN1.out⟩, fun e => absurd e (by decide), fun e => absurd e (by decide), fun e => absurd e (by decide), fun e => absurd e (by decide), trivial⟩)
        · intro r a w' hf hg hW hr hd K hK
          refine wpOp_of rfl rfl ?_
          have e0 : a.tmps.getD 1 undef = .slice (some ⟨b0, o0, none⟩) N cb := hf.evalFree (by kernel_rfl)
          go_simp
          exact hK _ _ rfl (hW.upd 5 _ ⟨fun e => absurd e (by decide), fun e => absurd e (by decide), fun e => absurd e (by decide), fun e => absurd e (by decide), fun e => absurd e (by decide), trivial⟩)
        · intro r a w' hf hg hW hr hd K hK
          refine wpOp_of rfl rfl ?_
          have e0 : a.tmps.getD 0 undef = .slice A N ca := hf.evalFree (by kernel_rfl)
          go_simp
          exact hK _ _ rfl (hW.upd 6 _ ⟨fun e => absurd e (by decide), fun e => absurd e (by decide), fun e => absurd e (by decide), fun e => absurd e (by decide), fun e => absurd e (by decide), trivial⟩)
        · intro r a w' hf hg hW hr hd K hK
          refine wpOp_of rfl rfl ?_
          refine hf.depE hg hd 6 34 (by kernel_rfl) fun u0 e0 g0 h0 => ?_
          replace g0 : u0 = .slice A N ca := g0
          subst g0
          go_simp
          exact hK _ _ rfl (hW.upd 7 _ ⟨fun e => absurd e (by decide), fun e => absurd e (by decide), fun e => absurd e (by decide), fun e => absurd e (by decide), fun e => absurd e (by decide), trivial⟩)
        · intro r a w' hf hg hW hr hd K hK
          refine wpOp_of rfl rfl ?_
          refine hf.depE hg hd 7 35 (by kernel_rfl) fun u0 e0 g0 h0 => ?_
          replace g0 : u0 = .int .i64 (N : Nat) := g0
          subst g0
          go_simp
          exact hK _ _ rfl (hW.upd 8 _ ⟨fun e => absurd e (by decide), fun e => absurd e (by decide), fun e => absurd e (by decide), fun e => absurd e (by decide), fun e => absurd e (by decide), trivial⟩)
        · intro r a w' hf hg hW hr hd K hK
          refine wpOp_of rfl rfl ?_
          have e0 : a.tmps.getD 7 undef = .int .i64 (k : Nat) := hf.evalFree (by kernel_rfl)
          go_simp
          exact hK _ _ rfl (hW.upd 9 _ ⟨fun e => absurd e (by decide), fun e => absurd e (by decide), fun e => absurd e (by decide), fun e => absurd e (by decide), fun e => absurd e (by decide), trivial⟩)
        · intro r a w' hf hg hW hr hd K hK
          refine wpOp_of rfl rfl ?_
          refine hf.depE hg hd 8 36 (by kernel_rfl) fun u0 e0 g0 h0 => ?_
          replace g0 : u0 = .int .i64 ((N : Int) - 1) := g0
          subst g0
          refine hf.depE hg hd 9 37 (by kernel_rfl) fun u1 e1 g1 h1 => ?_
          replace g1 : u1 = .int .i64 (k : Nat) := g1
          subst g1
          go_simp
          exact hK _ _ rfl (hW.upd 10 _ ⟨fun e => absurd e (by decide), fun e => absurd e (by decide), fun e => absurd e (by decide), fun e => absurd e (by decide), fun e => absurd e (by decide), trivial⟩)
        · intro r a w' hf hg hW hr hd K hK
          refine wpOp_of rfl rfl ?_
          refine hf.depE hg hd 5 33 (by kernel_rfl) fun u0 e0 g0 h0 => ?_
          replace g0 : u0 = .slice (some ⟨b0, o0, none⟩) N cb := g0
          subst g0
          refine hf.depE hg hd 10 38 (by kernel_rfl) fun u1 e1 g1 h1 => ?_
          replace g1 : u1 = .int .i64 (i2 : Nat) := g1
          subst g1
          go_simp
          exact hK _ _ rfl (hW.upd 11 _ ⟨fun e => absurd e (by decide), fun e => absurd e (by decide), fun e => absurd e (by decide), fun e => absurd e (by decide), fun e => absurd e (by decide), trivial⟩)
        · intro r a w' hf hg hW hr hd K hK
          refine wpOp_of rfl rfl ?_
          refine hf.depE hg hd 11 39 (by kernel_rfl) fun u0 e0 g0 h0 => ?_
          replace g0 : u0 = .pointer (some ⟨b0, o0 + i2, none⟩) := g0
          subst g0
          have z0 := hW.kp.cell hcT id
          go_simp
          exact hK _ _ rfl (hW.upd 12 _ ⟨fun e => absurd e (by decide), fun e => absurd e (by decide), fun e => absurd e (by decide), fun e => absurd e (by decide), fun e => absurd e (by decide), trivial⟩)
        · intro r a w' hf hg hW hr hd K hK
          refine wpOp_of rfl rfl ?_
          refine hf.depE hg hd 12 40 (by kernel_rfl) fun u0 e0 g0 h0 => ?_
          replace g0 : u0 = .slice A2 n2 c2 := g0
          subst g0
          go_simp
          with_reducible refine (A2C.out _ hW.kp).mono ?_
          rintro e w'' ⟨B9, d9, rfl, ho, k0⟩
          exact hK _ _ trivial ((hW.call FS.out k0).upd 13 _ ⟨fun e => absurd e (by decide), fun _ => ⟨B9, d9, rfl, own_rdi ho HN2.out⟩, fun e => absurd e (by decide), fun e => absurd e (by decide), fun e => absurd e (by decide), trivial⟩)
        · intro r a w' hf hg hW hr hd K hK
          refine wpOp_of rfl rfl ?_
          refine hf.depE hg hd 13 41 (by kernel_rfl) fun u0 e0 g0 h0 => ?_
          have f0 := (hW.hv 13 u0 h0).2.1 rfl
          obtain ⟨B8, d8, e8, r8⟩ := f0
          subst e8
          go_simp
          with_reducible refine (turned_any B8 n2 d8 (cI (anewN T)) _ r8 (by omega)).mono ?_
          rintro e w'' ⟨B9, d9, rfl, ho, k0⟩
          exact hK _ _ trivial ((hW.call FS.out k0).upd 14 _ ⟨fun e => absurd e (by decide), fun e => absurd e (by decide), fun _ => ⟨B9, d9, rfl, own_rdi ho (by rw [List.length_reverse]; exact HN2.out)⟩, fun e => absurd e (by decide), fun e => absurd e (by decide), trivial⟩)
        · intro r a w' hf hg hW hr hd K hK
          refine wpOp_of rfl rfl ?_
          refine hf.depE hg hd 4 32 (by kernel_rfl) fun u0 e0 g0 h0 => ?_
          have f0 := (hW.hv 4 u0 h0).1 rfl
          go_simp
          exact hK _ _ trivial (hW.upd 15 _ ⟨fun e => absurd e (by decide), fun e => absurd e (by decide), fun e => absurd e (by decide), fun _ => f0, fun e => absurd e (by decide), trivial⟩)
        · intro r a w' hf hg hW hr hd K hK
          refine wpOp_of rfl rfl ?_
          refine hf.depE hg hd 14 42 (by kernel_rfl) fun u0 e0 g0 h0 => ?_
          have f0 := (hW.hv 14 u0 h0).2.2.1 rfl
          go_simp
          exact hK _ _ trivial (hW.upd 16 _ ⟨fun e => absurd e (by decide), fun e => absurd e (by decide), fun e => absurd e (by decide), fun e => absurd e (by decide), fun _ => f0, trivial⟩)
      intro r' w5 hg hW hr'
      have hkN := hW.kp
      obtain ⟨q15, hq15⟩ : ∃ u, r' 15 = some u := Option.ne_none_iff_exists'.1 (hr' 15 (by decide))
      have hF15 := (hW.hv 15 q15 hq15).2.2.2.1 rfl
      obtain ⟨q16, hq16⟩ : ∃ u, r' 16 = some u := Option.ne_none_iff_exists'.1 (hr' 16 (by decide))
      have hF16 := (hW.hv 16 q16 hq16).2.2.2.2.1 rfl
      simp only [List.length_cons, List.length_nil, Nat.reduceAdd, List.range_succ, List.range_zero, List.nil_append, List.cons_append, List.map_cons, List.map_nil, putAll, Act.put, List.setIfInBounds_toArray, List.set_cons_succ, List.set_cons_zero, hq15, hq16, Option.getD_some]
      clear hg hW hr' FS hq15 hq16
      obtain ⟨B1, d1, rfl, o1⟩ := hF15
      obtain ⟨B2, d2, rfl, o2⟩ := hF16
      have HR1 := Lib.hid o1
      have HR2 := Lib.hid o2
      have HK5 := Lib.hid (HK.out.tr hkN)
      clear o1 o2 hkN q1 q2 A1C A2C hcS hcT
      by_cases hnn : n1 = n2
      rotate_left
      · have hne : ((n1 : Int) != (n2 : Int)) = true := by simp; omega
        have HF := Lib.hid (show mirS l plan k = false by
          rw [HSD.out, decide_eq_false_iff_not]
          intro e
          have h1 := HN1.out
          have h2 := HN2.out
          rw [cI_len] at h1 h2
          rw [e, List.length_reverse] at h1
          omega)
        have HMB := Lib.hid (HST.out k hlt HF.out)
        go_wp2_with fail
        go_ret2
        exact ⟨by rw [HMB.out]; rfl, HK5.out⟩
      · subst hnn
        have HRV := Lib.hid (show (cI (anewN T)).reverse = cI (anewN T).reverse by unfold cI; rw [List.map_reverse])
        obtain ⟨wo, rfl⟩ : ∃ wo, wo = w5 := ⟨_, rfl⟩
        go_wp2_with fail
        go_loopw [10] (fun i wr => ∃ t : Nat, t ≤ n1 ∧ i = .int .i64 (t : Nat) ∧ (cI (anewN S)).take t = (cI (anewN T)).reverse.take t ∧ ∃ q, wr = wo.drewN q) (fun i _ => n1 - (intOf i).toNat)
        case atStart => exact ⟨0, by omega, rfl, rfl, 0, rfl⟩
        case round =>
          obtain ⟨t, ht, rfl, hnt, q, hq⟩ := hrel
          have HNT := Lib.hid hnt
          have HQ := Lib.hid hq
          have hkp : Kp No wo wr := by rw [hq]; exact Kp.drewN _ _ _
          clear hnt hq
          by_cases hlt2 : t < n1
          · obtain ⟨x, hx⟩ : ∃ x, (cI (anewN S))[t]? = some x := ⟨_, List.getElem?_eq_getElem (by rw [HN1.out]; exact hlt2)⟩
            obtain ⟨y, hy⟩ : ∃ y, (cI (anewN T)).reverse[t]? = some y := ⟨_, List.getElem?_eq_getElem (by rw [List.length_reverse, HN2.out]; exact hlt2)⟩
            obtain ⟨b1, o1, rfl, hb1, hc1⟩ := (HR1.out.no hkp).2 t x hx
            obtain ⟨b2, o2, rfl, hb2, hc2⟩ := (HR2.out.no hkp).2 t y hy
            have GX := Lib.hid hx
            have GY := Lib.hid hy
            clear hx hy
            have HKP := Lib.hid hkp
            clear hkp
            by_cases he : x = y
            · have d1 : (x != y) = false := by simp [he]
              have HE := Lib.hid he
              clear he
              go_wp2_with fail
              go_quiet (fail)
              go_wp2_with fail
              go_roundw
              case rel => exact ⟨t + 1, by omega, by go_num, by rw [List.take_add_one, List.take_add_one, GX.out, GY.out, HNT.out, HE.out], q + nq, by rw [HQ.out, World.drewN_drewN]⟩
              case measure => simp [intOf]; omega
            · have d1 : (x != y) = true := by simp [he]
              have HF := Lib.hid (show mirS l plan k = false by
                rw [HSD.out, decide_eq_false_iff_not]
                intro e
                have g1 := GX.out
                rw [e, ← HRV.out] at g1
                exact he (Option.some.inj (g1.symm.trans GY.out)))
              have HMB := Lib.hid (HST.out k hlt HF.out)
              clear he
              go_wp2_with fail
              go_quiet (fail)
              go_wp2_with fail
              go_ret2
              exact ⟨by rw [HMB.out]; rfl, HK5.out.tr (HKP.out.tr (Kp.drewN No _ _))⟩
          · obtain rfl : n1 = t := by omega
            have HT := Lib.hid (show mirS l plan k = true by
              rw [HSD.out, decide_eq_true_eq]
              have h := HNT.out
              rw [List.take_of_length_le (by rw [HN1.out]; exact Nat.le_refl _), List.take_of_length_le (by rw [List.length_reverse, HN2.out]; exact Nat.le_refl _), HRV.out] at h
              exact cI_inj h)
            have HKP := Lib.hid hkp
            clear hkp
            go_wp2_with fail
            go_roundw
            case rel => exact ⟨k + 1, by omega, by go_num, by rw [mir_succ, HN.out, HT.out]; rfl, HK5.out.tr HKP.out⟩
            case measure => simp [intOf]; omega
    · obtain rfl : M = k := by omega
      have HMB := Lib.hid (show MB = true by rw [HAL.out, HN.out])
      go_wp2_with fail
      go_ret2
      exact ⟨by rw [HMB.out]; rfl, HK.out⟩
end Go.Proofs.Ytakgcnjpmpcekaa
