/- Chapter 14: the walk of NetworkSupplies. -/
import Derived.Test.YtjjecadfcndkaaaFar
namespace Go.Proofs.Ytjjecadfcndkaaa
open Go.RowKit Go.Kq Go.Flow

set_option maxHeartbeats 2000000 in
set_option maxRecDepth 100000 in
theorem supplies_far (Z : Nz) (A B : Option Addr) (ca cb : Nat) (hi : Bool) (w : World) (hf : FarZ Z 8 14) :
    Calls Try.prog 3 #[netZ Z A B ca cb, .bool hi] w fun e w' => e = .returned (.bool true) ∧ Kp No w w' := by
  have HA := Lib.hid awake_any
  have HF := Lib.hid (far_any Z 8 14 A B ca cb)
  rw [decide_eq_true hf] at HF
  clear hf
  unfold netZ at HF
  unfold netZ
  go_enter Try.func3, Try.ntmps3
  go_wp2_with fail
  refine (HF.out _).mono ?_
  rintro e w1 ⟨rfl, hk1⟩
  have K1 := Lib.hid ((Kp.alloc No w (.cells #[.int .i64 Z.n, .slice A Z.tr.length ca, .slice B Z.ch.length cb] 25)).tr hk1)
  clear hk1
  go_wp2_with fail
  refine (HA.out _).mono ?_
  rintro e w2 ⟨rfl, hk2⟩
  go_wp2_with fail
  refine bodyPost_ret (v := .bool true) (by simp [results, Try.results3, go_sem]) rfl ⟨rfl, K1.out.tr hk2⟩
/-- What both sides return, alike. -/
structure Both (Z : Nz) (A B : Option Addr) (ca cb : Nat) (hi : Bool) (c : Int) (P : Int → Int → Prop) (Q : List Nat → Prop) : Prop where
  g1 : ∀ W, RdNz W A B Z → Calls Try.prog 11 #[netZ Z A B ca cb] W fun e w' => ∃ lo up, P lo up ∧ e = .returned (.tuple #[.agg #[.int .i64 lo, .int .i64 up], .int .i64 c]) ∧ Kp No W w'
  g2 : ∀ lo up, P lo up → ∀ W, RdNz W A B Z → Calls Try.prog 12 #[netZ Z A B ca cb] W fun e w' => e = .returned (.tuple #[.agg #[.int .i64 lo, .int .i64 up], .int .i64 c]) ∧ Kp No W w'
  c1 : ∀ W, RdNz W A B Z → Calls Try.prog 13 #[netZ Z A B ca cb, .bool hi] W fun e w' => ∃ M a cp, Q M ∧ e = .returned (.tuple #[.slice a M.length cp, .int .i64 c]) ∧ RdI .i64 w' a M.length (M.map Int.ofNat) ∧ Kp No W w'
  c2 : ∀ M, Q M → ∀ W, RdNz W A B Z → Calls Try.prog 14 #[netZ Z A B ca cb, .bool hi] W fun e w' => ∃ a cp, e = .returned (.tuple #[.slice a M.length cp, .int .i64 c]) ∧ RdI .i64 w' a M.length (M.map Int.ofNat) ∧ Kp No W w'
  k1 : ∀ W, RdNz W A B Z → Calls Try.prog 15 #[netZ Z A B ca cb] W fun e w' => e = .returned (.int .i64 c) ∧ Kp No W w'
  k2 : ∀ W, RdNz W A B Z → Calls Try.prog 16 #[netZ Z A B ca cb] W fun e w' => e = .returned (.int .i64 c) ∧ Kp No W w'
  ml : ∀ M, Q M → M.length ≤ 100
theorem both_bad (Z : Nz) (c : Int) (hc : ChkIs Z c) (hz : c ≠ 0) (A B : Option Addr) (ca cb : Nat) (hi : Bool) : Both Z A B ca cb hi c (fun lo up => lo = 0 ∧ up = 0) (fun M => M = []) where
  g1 := fun W hR => (Greatest_bad Z c hc hz A B ca cb W hR).mono fun _ _ ⟨h, hk⟩ => ⟨0, 0, ⟨rfl, rfl⟩, h, hk⟩
  g2 := fun lo up ⟨h1, h2⟩ W hR => by subst h1 h2; exact rGreatest_bad Z c hc hz A B ca cb W hR
  c1 := fun W hR => (Cut_bad Z c hc hz A B ca cb hi W hR).mono fun e w' ⟨h, hk⟩ => ⟨[], none, 0, rfl, h, RdI.nil _ _, hk⟩
  c2 := fun M h W hR => by subst h; exact (rCut_bad Z c hc hz A B ca cb hi W hR).mono fun e w' ⟨h, hk⟩ => ⟨none, 0, h, RdI.nil _ _, hk⟩
  k1 := fun W hR => check_bad Z c hc A B ca cb W hR
  k2 := fun W hR => rcheck_bad Z c hc A B ca cb W hR
  ml := fun M h => by rw [h]; simp
theorem both_ok (N : Net) (hN : N.Ok) (h8 : N.n ≤ 8) (A B : Option Addr) (ca cb : Nat) (hi : Bool) : Both (nz N) A B ca cb hi 0 (fun lo up => Gr N false lo ∧ Gr N true up) (fun M => ∃ R, Cu N hi R ∧ M = mem R N.n) where
  g1 := fun W hW => by
    rw [netZ_nz]
    refine (Greatest_ok N hN A B ca cb W (rdnet_z hW)).mono ?_
    rintro e w' ⟨l, u, rfl, h1, h2, hk⟩
    exact ⟨l, u, ⟨h1, h2⟩, rfl, hk⟩
  g2 := fun lo up ⟨hlo, hup⟩ W hW => by
    rw [netZ_nz]
    refine (rGreatest_ok N hN A B ca cb W (rdnet_z hW)).mono ?_
    rintro e w' ⟨l, u, rfl, h1, h2, hk⟩
    rw [h1.uniq hlo, h2.uniq hup]
    exact ⟨rfl, hk⟩
  c1 := fun W hW => by
    rw [netZ_nz]
    refine (Cut_ok N hN A B ca cb hi W (rdnet_z hW)).mono ?_
    rintro e w' ⟨v, R', rfl, hc, ho, hk⟩
    obtain ⟨a, cp, rfl, hi⟩ := own_rdn ho
    exact ⟨_, _, _, ⟨R', hc, rfl⟩, rfl, hi, hk⟩
  c2 := fun M ⟨R, hR, hM⟩ W hW => by
    subst hM
    rw [netZ_nz]
    refine (rCut_ok N hN h8 A B ca cb hi R W (rdnet_z hW) hR).mono ?_
    rintro e w' ⟨v, rfl, ho, hk⟩
    obtain ⟨a, cp, rfl, hi⟩ := own_rdn ho
    exact ⟨_, _, rfl, hi, hk⟩
  k1 := fun W hW => by
    rw [netZ_nz]
    exact check_ok N hN A B ca cb W (rdnet_z hW)
  k2 := fun W hW => by
    rw [netZ_nz]
    exact rcheck_ok N hN A B ca cb W (rdnet_z hW)
  ml := fun M ⟨R, _, hM⟩ => by
    have h1 := mem_le R N.n
    have h2 := hN.n2
    rw [hM]
    omega
attribute [local go_sem ↓] Go.wp_at_zero Go.wp_at_succ
set_option maxHeartbeats 8000000 in
set_option maxRecDepth 100000 in
theorem supplies_near (Z : Nz) (A B : Option Addr) (ca cb : Nat) (hi : Bool) (c : Int) (P : Int → Int → Prop) (Q : List Nat → Prop) (w : World) (hf : ¬ FarZ Z 8 14) (hR : RdNz w A B Z) (hB : Both Z A B ca cb hi c P Q) :
    Calls Try.prog 3 #[netZ Z A B ca cb, .bool hi] w fun e w' => e = .returned (.bool true) ∧ Kp No w w' := by
  have HA := Lib.hid awake_any
  have HF := Lib.hid (far_any Z 8 14 A B ca cb)
  rw [decide_eq_false hf] at HF
  have G1 := Lib.hid hB.g1
  have G2 := Lib.hid hB.g2
  have C1 := Lib.hid hB.c1
  have C2 := Lib.hid hB.c2
  have E1 := Lib.hid hB.k1
  have E2 := Lib.hid hB.k2
  have ML := Lib.hid hB.ml
  have HR := Lib.hid hR
  clear hf hB hR
  unfold netZ at HF G1 G2 C1 C2 E1 E2
  unfold netZ
  go_enter Try.func3, Try.ntmps3
  go_wp2_with fail
  have K0 := Lib.hid (Kp.alloc No w (.cells #[.int .i64 Z.n, .slice A Z.tr.length ca, .slice B Z.ch.length cb] 25))
  refine (HF.out _).mono ?_
  rintro e w1 ⟨rfl, hk1⟩
  have B1 := Lib.hid (hk1.heap (heap_alloc_new w (.cells #[.int .i64 Z.n, .slice A Z.tr.length ca, .slice B Z.ch.length cb] 25)) (fun h => h))
  have K1 := Lib.hid (K0.out.tr hk1)
  obtain ⟨x0, x1, x2⟩ := box3 B1.out
  clear hk1
  go_wp2_with fail
  refine (G1.out _ (HR.out.no K1.out)).mono ?_
  rintro e w2 ⟨lo, up, hP, rfl, hk2⟩
  have HP := Lib.hid hP
  have K2 := Lib.hid (K1.out.tr hk2)
  have B2 := Lib.hid (hk2.heap B1.out (fun h => h))
  clear hP hk2 x0 x1 x2
  obtain ⟨x0, x1, x2⟩ := box3 B2.out
  have hs2 := (Array.getElem?_eq_some_iff.1 B2.out).1
  go_wp2_with fail
  have KA := Kp.alloc No w2 (.cells #[.int .i64 lo, .int .i64 up] 29)
  refine (G2.out _ _ HP.out _ (HR.out.no (K2.out.tr KA))).mono ?_
  rintro e w3 ⟨rfl, hk3⟩
  have K3 := Lib.hid ((K2.out.tr KA).tr hk3)
  have B3 := Lib.hid ((KA.tr hk3).heap B2.out (fun h => h))
  have D3 := Lib.hid (hk3.heap (heap_alloc_new w2 (.cells #[.int .i64 lo, .int .i64 up] 29)) (fun h => h))
  clear hk3 KA x0 x1 x2
  obtain ⟨x0, x1, x2⟩ := box3 B3.out
  have hs3 := (Array.getElem?_eq_some_iff.1 B3.out).1
  have hd3 := (Array.getElem?_eq_some_iff.1 D3.out).1
  go_wp2_with fail
  have KA := Kp.alloc No w3 (.cells #[.int .i64 lo, .int .i64 up] 29)
  refine (C1.out _ (HR.out.no (K3.out.tr KA))).mono ?_
  rintro e w4 ⟨M, a4, cp4, hQ, rfl, hI4, hk4⟩
  have HQ := Lib.hid hQ
  have K4 := Lib.hid ((K3.out.tr KA).tr hk4)
  have B4 := Lib.hid ((KA.tr hk4).heap B3.out (fun h => h))
  have D4 := Lib.hid ((KA.tr hk4).heap D3.out (fun h => h))
  have F4 := Lib.hid (hk4.heap (heap_alloc_new w3 (.cells #[.int .i64 lo, .int .i64 up] 29)) (fun h => h))
  have I4 := Lib.hid hI4
  have hml := ML.out M hQ
  clear hQ hk4 KA x0 x1 x2 hI4
  obtain ⟨x0, x1, x2⟩ := box3 B4.out
  go_wp2_with fail
  refine (C2.out _ HQ.out _ (HR.out.no K4.out)).mono ?_
  rintro e w5 ⟨a5, cp5, rfl, hI5, hk5⟩
  have K5 := Lib.hid (K4.out.tr hk5)
  have B5 := Lib.hid (hk5.heap B4.out (fun h => h))
  have D5 := Lib.hid (hk5.heap D4.out (fun h => h))
  have F5 := Lib.hid (hk5.heap F4.out (fun h => h))
  have I45 := Lib.hid (I4.out.no hk5)
  have I5 := Lib.hid hI5
  clear hk5 x0 x1 x2 hI5
  obtain ⟨x0, x1, x2⟩ := box3 B5.out
  obtain ⟨y0, y1⟩ := box2 D5.out
  obtain ⟨z0, z1⟩ := box2 F5.out
  have HSAME := Lib.hid (fun W hx hy => sameI_any a4 a5 M.length M.length cp4 cp5 (M.map Int.ofNat) (M.map Int.ofNat) W hx hy (by omega))
  rw [decide_eq_true rfl] at HSAME
  have hbx := (Array.getElem?_eq_some_iff.1 B5.out).1
  have hdx := (Array.getElem?_eq_some_iff.1 D5.out).1
  have hfx := (Array.getElem?_eq_some_iff.1 F5.out).1
  go_wp2_with fail
  go_region_held3 (fun w' => w'.cell? ⟨w.heap.size, 0, none⟩ = some (.int .i64 Z.n) ∧ w'.cell? ⟨w.heap.size, 1, none⟩ = some (.slice A Z.tr.length ca) ∧ w'.cell? ⟨w.heap.size, 2, none⟩ = some (.slice B Z.ch.length cb) ∧ w'.cell? ⟨w2.heap.size, 0, none⟩ = some (.int .i64 lo) ∧ w'.cell? ⟨w2.heap.size, 1, none⟩ = some (.int .i64 up) ∧ w'.cell? ⟨w3.heap.size, 0, none⟩ = some (.int .i64 lo) ∧ w'.cell? ⟨w3.heap.size, 1, none⟩ = some (.int .i64 up)) (first | exact ⟨c0, c1, c2, c3, c4, c5, c6⟩ | go_keep)
    ((first | (go_at_call 15; refine (E1.out _ (HR.out.no (K5.out.tr (Kp.drew No _)))).mono ?_; rintro e w6 ⟨rfl, hk6⟩; have L6 := Lib.hid ((Kp.drew No _).tr hk6); have c0 := L6.out.cell x0 (fun h => h); have c1 := L6.out.cell x1 (fun h => h); have c2 := L6.out.cell x2 (fun h => h); have c3 := L6.out.cell y0 (fun h => h); have c4 := L6.out.cell y1 (fun h => h); have c5 := L6.out.cell z0 (fun h => h); have c6 := L6.out.cell z1 (fun h => h); clear hk6) | (go_at_call 16; refine (E2.out _ (HR.out.no (K5.out.tr L6.out))).mono ?_; rintro e w7 ⟨rfl, hk7⟩; have L7 := Lib.hid (L6.out.tr hk7); have c0 := L7.out.cell x0 (fun h => h); have c1 := L7.out.cell x1 (fun h => h); have c2 := L7.out.cell x2 (fun h => h); have c3 := L7.out.cell y0 (fun h => h); have c4 := L7.out.cell y1 (fun h => h); have c5 := L7.out.cell z0 (fun h => h); have c6 := L7.out.cell z1 (fun h => h); clear hk7) | (go_at_call 17; refine (HSAME.out _ (I45.out.no L7.out) (I5.out.no L7.out)).mono ?_; rintro e w8 ⟨rfl, hk8⟩; have L8 := Lib.hid (L7.out.tr hk8); have c0 := L8.out.cell x0 (fun h => h); have c1 := L8.out.cell x1 (fun h => h); have c2 := L8.out.cell x2 (fun h => h); have c3 := L8.out.cell y0 (fun h => h); have c4 := L8.out.cell y1 (fun h => h); have c5 := L8.out.cell z0 (fun h => h); have c6 := L8.out.cell z1 (fun h => h); clear hk8) | (go_at_call 10; refine (HA.out _).mono ?_; rintro e w9 ⟨rfl, hk9⟩; have L9 := Lib.hid (L8.out.tr hk9); have c0 := L9.out.cell x0 (fun h => h); have c1 := L9.out.cell x1 (fun h => h); have c2 := L9.out.cell x2 (fun h => h); have c3 := L9.out.cell y0 (fun h => h); have c4 := L9.out.cell y1 (fun h => h); have c5 := L9.out.cell z0 (fun h => h); have c6 := L9.out.cell z1 (fun h => h); clear hk9)))
  go_wp2_with fail
  refine bodyPost_ret (v := .bool true) (by simp [results, Try.results3, go_sem]) rfl ⟨rfl, K5.out.tr L9.out⟩
theorem tsupplies_any (Z : Nz) (A B : Option Addr) (ca cb : Nat) (hi : Bool) (w : World) (hR : RdNz w A B Z) :
    Calls Try.prog 3 #[netZ Z A B ca cb, .bool hi] w fun e w' => e = .returned (.bool true) ∧ Kp No w w' := by
  by_cases hf : FarZ Z 8 14
  · exact supplies_far Z A B ca cb hi w hf
  · obtain ⟨c, hc⟩ : ∃ c, ChkIs Z c := by
      by_cases h1 : NLong Z
      · exact ⟨3, .inl ⟨h1, rfl⟩⟩
      · by_cases h2 : NBad Z
        · exact ⟨2, .inr (.inl ⟨h1, h2, rfl⟩)⟩
        · exact ⟨0, .inr (.inr ⟨h1, h2, rfl⟩)⟩
    by_cases hz : c = 0
    · subst hz
      obtain ⟨N, hN, rfl⟩ := chk_zero hc
      have h8 : N.n ≤ 8 := by
        have h2 := hN.n2
        by_cases h : N.n ≤ 8
        · exact h
        · exact absurd (.inl ⟨by show (8 : Int) < N.n; omega, by show (N.n : Int) ≤ 24; omega⟩) hf
      exact supplies_near (nz N) A B ca cb hi 0 _ _ w hf hR (both_ok N hN h8 A B ca cb hi)
    · exact supplies_near Z A B ca cb hi c _ _ w hf hR (both_bad Z c hc hz A B ca cb hi)
end Go.Proofs.Ytjjecadfcndkaaa
