/- Chapter 14: the walks of Far and of the reference's Cut. -/
import Derived.Test.YtjjecadfcndkaaaLea
namespace Go.Proofs.Ytjjecadfcndkaaa
open Go.RowKit Go.Kq Go.Flow

/-- More than is looked at. -/
def FarZ (Z : Nz) (nodes trunks : Int) : Prop := (nodes < Z.n ∧ Z.n ≤ 24) ∨ (trunks < Z.tr.length ∧ (Z.tr.length : Int) ≤ 60) ∨ (70 : Int) < Z.tr.length ∨ (20 : Int) < Z.ch.length
instance (Z : Nz) (a b : Int) : Decidable (FarZ Z a b) := by unfold FarZ; infer_instance
set_option maxHeartbeats 4000000 in
theorem far_any (Z : Nz) (nodes trunks : Int) (A B : Option Addr) (ca cb : Nat) (w : World) :
    Calls Try.prog 9 #[netZ Z A B ca cb, .int .i64 nodes, .int .i64 trunks] w fun e w' => e = .returned (.bool (decide (FarZ Z nodes trunks))) ∧ Kp No w w' := by
  unfold netZ
  have c1 : (nodes < Z.n ∧ Z.n ≤ 24) ∨ (nodes < Z.n ∧ 24 < Z.n) ∨ Z.n ≤ nodes := by omega
  have c2 : (trunks < Z.tr.length ∧ (Z.tr.length : Int) ≤ 60) ∨ (trunks < Z.tr.length ∧ (60 : Int) < Z.tr.length) ∨ (Z.tr.length : Int) ≤ trunks := by omega
  have c3 : (70 : Int) < Z.tr.length ∨ (Z.tr.length : Int) ≤ 70 := by omega
  have c4 : (20 : Int) < Z.ch.length ∨ (Z.ch.length : Int) ≤ 20 := by omega
  rcases c1 with ⟨h1, h2⟩ | ⟨h1, h2⟩ | h1
  · have HV := Lib.hid (show decide (FarZ Z nodes trunks) = true from decide_eq_true (.inl ⟨h1, h2⟩))
    clear c2 c3 c4
    go_enter Try.func9, Try.ntmps9
    go_wp2_with fail
    go_ret
    exact ⟨ret_bool HV.out.symm, Kp.alloc _ _ _⟩
  all_goals
    rcases c2 with ⟨g1, g2⟩ | ⟨g1, g2⟩ | g1
    · have HV := Lib.hid (show decide (FarZ Z nodes trunks) = true from decide_eq_true (.inr (.inl ⟨g1, g2⟩)))
      clear c3 c4
      go_enter Try.func9, Try.ntmps9
      go_wp2_with fail
      go_ret
      exact ⟨ret_bool HV.out.symm, Kp.alloc _ _ _⟩
    all_goals
      rcases c3 with k1 | k1
      · have HV := Lib.hid (show decide (FarZ Z nodes trunks) = true from decide_eq_true (.inr (.inr (.inl k1))))
        clear c4
        go_enter Try.func9, Try.ntmps9
        go_wp2_with fail
        go_ret
        exact ⟨ret_bool HV.out.symm, Kp.alloc _ _ _⟩
      · rcases c4 with m1 | m1
        · have HV := Lib.hid (show decide (FarZ Z nodes trunks) = true from decide_eq_true (.inr (.inr (.inr m1))))
          go_enter Try.func9, Try.ntmps9
          go_wp2_with fail
          go_ret
          exact ⟨ret_bool HV.out.symm, Kp.alloc _ _ _⟩
        · have HV := Lib.hid (show decide (FarZ Z nodes trunks) = false from decide_eq_false (fun h => by unfold FarZ at h; omega))
          go_enter Try.func9, Try.ntmps9
          go_wp2_with fail
          go_ret
          exact ⟨ret_bool (by rw [HV.out]; simp; omega), Kp.alloc _ _ _⟩
set_option maxHeartbeats 2000000 in
theorem rCut_ok (N : Net) (hN : N.Ok) (h8 : N.n ≤ 8) (A B : Option Addr) (ca cb : Nat) (hi : Bool) (R : Nat → Bool) (w : World) (hR : RdNet w A B N) (hc : Cu N hi R) :
    Calls Try.prog 14 #[netV N A B ca cb, .bool hi] w fun e w' => ∃ v, e = .returned (.tuple #[v, .int .i64 0]) ∧ w'.ownsRow w.heap.size 3 1 v (mem R N.n).length ((mem R N.n).map natV) ∧ Kp No w w' := by
  have H1 := Lib.hid (rcheck_ok N hN A B ca cb)
  have H2 := Lib.hid (fun W hR => least_nil N hN h8 A B ca cb hi R W hR hc)
  have HR := Lib.hid hR
  clear hN hR hc
  unfold netV at H1 H2 ⊢
  go_enter Try.func14, Try.ntmps14
  go_wp2_with fail
  have K0 := Lib.hid (Kp.alloc No w (.cells #[.int .i64 N.n, .slice A N.tr.length ca, .slice B N.ch.length cb] 25))
  refine (H1.out _ (HR.out.no K0.out)).mono ?_
  rintro e w1 ⟨rfl, hk1⟩
  have B1 := Lib.hid (hk1.heap (heap_alloc_new w (.cells #[.int .i64 N.n, .slice A N.tr.length ca, .slice B N.ch.length cb] 25)) (fun h => h))
  have K1 := Lib.hid (K0.out.tr hk1)
  obtain ⟨x0, x1, x2⟩ := box3 B1.out
  clear hk1
  go_wp2_with fail
  refine (H2.out _ (HR.out.no K1.out)).mono ?_
  rintro e w2 ⟨v, rfl, hown, hk2⟩
  have HO := Lib.hid hown
  clear hown
  go_wp2_with fail
  refine bodyPost_ret (v := .tuple #[v, .int .i64 0]) (by simp [results, Try.results14, go_sem]) rfl ⟨v, rfl, own_mono HO.out K1.out.size, K1.out.tr hk2⟩
set_option maxHeartbeats 2000000 in
theorem rCut_bad (Z : Nz) (c : Int) (hc : ChkIs Z c) (hz : c ≠ 0) (A B : Option Addr) (ca cb : Nat) (hi : Bool) (w : World) (hR : RdNz w A B Z) :
    Calls Try.prog 14 #[netZ Z A B ca cb, .bool hi] w fun e w' => e = .returned (.tuple #[.slice none 0 0, .int .i64 c]) ∧ Kp No w w' := by
  have H1 := Lib.hid (rcheck_bad Z c hc A B ca cb)
  have d1 : (c != 0) = true := by rw [bne_iff_ne]; exact hz
  have d2 : (c == 0) = false := by rw [beq_eq_false_iff_ne]; exact hz
  clear hc hz
  unfold netZ at H1 ⊢
  go_enter Try.func14, Try.ntmps14
  go_wp2_with fail
  have K0 := Lib.hid (Kp.alloc No w (.cells #[.int .i64 Z.n, .slice A Z.tr.length ca, .slice B Z.ch.length cb] 25))
  refine (H1.out _ (hR.no K0.out)).mono ?_
  rintro e w1 ⟨rfl, hk1⟩
  go_wp2_with fail
  refine bodyPost_ret (v := .tuple #[.slice none 0 0, .int .i64 c]) (by simp [results, Try.results14, go_sem]) rfl ⟨rfl, K0.out.tr hk1⟩
end Go.Proofs.Ytjjecadfcndkaaa
