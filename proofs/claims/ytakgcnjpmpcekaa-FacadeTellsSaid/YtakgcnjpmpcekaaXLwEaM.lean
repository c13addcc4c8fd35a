/- Chapter 24: the law Tells: the walk. · Chapter 24: the law's ends. -/
import Derived.Test.YtakgcnjpmpcekaaXAwA
import Derived.Test.YtakgcnjpmpcekaaXRfE
import Derived.Test.YtakgcnjpmpcekaaXFeA
namespace Go.Proofs.Ytakgcnjpmpcekaa
open Go.RowKit Go.Kq

def lngB (plan : List (List Int)) : Bool := decide (20 < plan.length) || plan.any fun S => decide (70 < S.length)
set_option maxHeartbeats 4000000 in
theorem long_any (g : Nat) (B : Option Addr) (N cb : Nat) (plan : List (List Int)) (w : World) (hB : RdL g w B N plan) : Calls Try.prog 18 #[.slice B N cb] w fun e w' => e = .returned (.bool (lngB plan)) ∧ w' = w := by
  have HB := Lib.hid hB
  have HL := Lib.hid hB.1
  clear hB
  by_cases h20 : 20 < N
  · have HE := Lib.hid (show lngB plan = true by unfold lngB; rw [HL.out]; simp [h20])
    rw [HE.out]
    go_enter Try.func18, Try.ntmps18
    go_wp2_with fail
    go_ret
    exact ⟨rfl, rfl⟩
  have HE := Lib.hid (show lngB plan = plan.any fun S => decide (70 < S.length) by unfold lngB; rw [HL.out]; simp [h20])
  rw [HE.out]
  go_enter Try.func18, Try.ntmps18
  go_wp2_with fail
  go_loop [3] (fun i => ∃ k : Nat, k ≤ N ∧ i = .int .i64 (k : Nat) ∧ ((plan.take k).any fun S => decide (70 < S.length)) = false) (fun i => N - (intOf i).toNat)
  case atStart => exact ⟨0, by omega, rfl, rfl⟩
  case round =>
    obtain ⟨k, hk, rfl, hno⟩ := hrel
    have HN := Lib.hid hno
    clear hno
    by_cases hlt : k < N
    · obtain ⟨S, hS⟩ : ∃ S, plan[k]? = some S := ⟨_, List.getElem?_eq_getElem (by rw [HL.out]; exact hlt)⟩
      obtain ⟨b, o, A', n', c', rfl, hb1, hc, _, hr, _⟩ := HB.out.2 k S hS
      have hsn : S.length = n' := hr.1
      have HT := Lib.hid (any_take_succ (fun S : List Int => decide (70 < S.length)) plan k S hS)
      have HY := Lib.hid (show 70 < n' → (plan.any fun S => decide (70 < S.length)) = true from fun h => List.any_eq_true.2 ⟨S, List.mem_of_getElem? hS, by rw [hsn]; simpa using h⟩)
      have HSN := Lib.hid hsn
      have hbl := hb1.2
      clear hS hr hb1 hsn
      by_cases h7 : 70 < n'
      · have HY2 := Lib.hid (HY.out h7)
        go_wp2_with fail
        go_ret
        exact ⟨ret_bool HY2.out.symm, rfl⟩
      · go_wp2_with fail
        go_round
        case rel => exact ⟨k + 1, by omega, by go_num, by rw [HT.out, HN.out, HSN.out]; simp; omega⟩
        case measure => simp [intOf]; omega
    · obtain rfl : N = k := by omega
      have HAL := Lib.hid (show (plan.any fun S => decide (70 < S.length)) = false by
        have h := HN.out
        rwa [List.take_of_length_le (by rw [HL.out]; exact Nat.le_refl _)] at h)
      go_wp2_with fail
      go_ret
      exact ⟨ret_bool HAL.out.symm, rfl⟩
set_option maxHeartbeats 8000000 in
set_option maxRecDepth 100000 in
theorem Tells_any (g : Nat) (A R B : Option Addr) (n ca m cr N cb : Nat) (l : List Fc) (r : List Int) (plan : List (List Int)) (w : World) (hA : RdF w A n l) (hR : RdI .i64 w R m r) (hB : RdL g w B N plan) :
    Calls Try.prog 5 #[.slice A n ca, .slice R m cr, .slice B N cb] w fun e w' => e = .returned (.bool true) ∧ Kp No w w' := by
  by_cases hn : 20 < n
  · clear hA hR hB
    go_enter Try.func5, Try.ntmps5
    go_wp2_with fail
    refine (awake_any _).mono ?_
    rintro e w4 ⟨rfl, k4⟩
    go_wp2_with fail
    go_ret
    exact ⟨rfl, k4⟩
  by_cases hm : 70 < m
  · clear hA hR hB
    go_enter Try.func5, Try.ntmps5
    go_wp2_with fail
    refine (awake_any _).mono ?_
    rintro e w4 ⟨rfl, k4⟩
    go_wp2_with fail
    go_ret
    exact ⟨rfl, k4⟩
  have LG := Lib.hid (long_any g B N cb plan w hB)
  cases hl : lngB plan
  rotate_left
  · rw [hl] at LG
    clear hA hR hB hl
    go_enter Try.func5, Try.ntmps5
    go_wp2_with fail
    refine LG.out.mono ?_
    rintro e w1 ⟨rfl, hw1⟩
    subst hw1
    go_wp2_with fail
    refine (awake_any _).mono ?_
    rintro e w4 ⟨rfl, k4⟩
    go_wp2_with fail
    go_ret
    exact ⟨rfl, k4⟩
  rw [hl] at LG
  have hN : N ≤ 20 := by
    unfold lngB at hl
    rw [hB.1] at hl
    simp only [Bool.or_eq_false_iff, decide_eq_false_iff_not] at hl
    omega
  have hb : ∀ S ∈ plan, S.length ≤ 70 := fun S hS => by
    unfold lngB at hl
    simp only [Bool.or_eq_false_iff] at hl
    have := List.any_eq_false.1 hl.2 S hS
    simp only [decide_eq_true_eq] at this
    omega
  have G1 := fun w0 (k : Kp No w w0) => Gap_any g A R B n ca m cr N cb l r plan w0 (hA.no k) (hR.no k) (hB.no k) (by omega) (by omega) hN hb
  have G2 := fun w0 (k : Kp No w w0) => rGap_any g A R B n ca m cr N cb l r plan w0 (hA.no k) (hR.no k) (hB.no k) (by omega) hN hb
  have M1 := fun w0 (k : Kp No w w0) => Mirrored_any g A B n ca N cb l plan w0 (hA.no k) (hB.no k) (by omega) hN hb
  have M2 := fun w0 (k : Kp No w w0) => rMirrored_any g A B n ca N cb l plan w0 (hA.no k) (hB.no k) hN hb
  generalize gapG l r plan = gg at *
  generalize gapE l r plan = ge at *
  generalize mirG l plan = mg at *
  generalize mirE l plan = me at *
  have d1 : (gg == gg) = true := by simp
  have d2 : (ge == ge) = true := by simp
  have d3 : (mg == mg) = true := by simp
  have d4 : (me == me) = true := by simp
  have G1 := Lib.hid G1
  have G2 := Lib.hid G2
  have M1 := Lib.hid M1
  have M2 := Lib.hid M2
  clear hA hR hB hl hb
  go_enter Try.func5, Try.ntmps5
  go_wp2_with fail
  refine LG.out.mono ?_
  rintro e w1 ⟨rfl, hw1⟩
  subst hw1
  go_wp2_with fail
  refine (G1.out _ (Kp.refl _ _)).mono ?_
  rintro e w2 ⟨rfl, k2⟩
  have K2 := Lib.hid k2
  clear k2
  go_wp2_with fail
  refine (G2.out _ K2.out).mono ?_
  rintro e w3 ⟨rfl, k3⟩
  have K3 := Lib.hid (K2.out.tr k3)
  clear k3
  go_wp2_with fail
  refine (M1.out _ K3.out).mono ?_
  rintro e w4 ⟨rfl, k4⟩
  have K4 := Lib.hid (K3.out.tr k4)
  clear k4
  go_wp2_with fail
  refine (M2.out _ K4.out).mono ?_
  rintro e w5 ⟨rfl, k5⟩
  have K5 := Lib.hid (K4.out.tr k5)
  clear k5
  go_wp2_with fail
  refine (awake_any _).mono ?_
  rintro e w6 ⟨rfl, k6⟩
  go_wp2_with fail
  go_ret
  exact ⟨rfl, K5.out.tr k6⟩
end Go.Proofs.Ytakgcnjpmpcekaa

namespace Go.Proofs.Ytakgcnjpmpcekaa
open Go.RowKit Go.Kq

def rowV (W b z : Int) (R : Option Addr) (m cr : Nat) : Value := .agg #[.int .i64 W, .int .i64 b, .int .i64 z, .slice R m cr]
set_option maxHeartbeats 4000000 in
theorem ends_yes (W b z g : Int) (R A : Option Addr) (m cr ca : Nat) (r x : List Int) (x0 y0 xn yn : Int) (w : World) (hm : 0 < m) (hm2 : m ≤ 60) (hR : RdI .i64 w R m r) (hA : RdI .i64 w A m x) (h1 : x[0]? = some x0) (h2 : r[0]? = some y0) (h3 : x[m - 1]? = some xn) (h4 : r[m - 1]? = some yn)
    (hW : 0 ≤ W ∧ W ≤ 10000000) (b1 : 0 ≤ x0 ∧ x0 ≤ 10000000) (b2 : 0 ≤ y0 ∧ y0 ≤ 10000000) (b3 : 0 ≤ xn ∧ xn ≤ 10000000) (_b4 : 0 ≤ yn ∧ yn ≤ 10000000) (hg : g ≤ x0 - y0) (hl : x0 - y0 ≤ W - xn - yn) (hr : W - xn - yn - (x0 - y0) ≤ 1) :
    Calls Try.prog 28 #[rowV W b z R m cr, .int .i64 g, .slice A m ca] w fun e w' => e = .returned (.bool true) ∧ Kp No w w' := by
  have hk : Kp No w (w.alloc (.cells #[.int .i64 W, .int .i64 b, .int .i64 z, .slice R m cr] 54)) := Kp.alloc _ _ _
  have p0 : (w.alloc (.cells #[.int .i64 W, .int .i64 b, .int .i64 z, .slice R m cr] 54)).cell? ⟨w.heap.size, 0, none⟩ = some (.int .i64 W) := by go_simp
  have p3 : (w.alloc (.cells #[.int .i64 W, .int .i64 b, .int .i64 z, .slice R m cr] 54)).cell? ⟨w.heap.size, 3, none⟩ = some (.slice R m cr) := by go_simp
  obtain ⟨o1, q1, rfl, _, c1⟩ := (hA.no hk).2 0 x0 h1
  obtain ⟨o2, q2, rfl, _, c2⟩ := (hR.no hk).2 0 y0 h2
  obtain ⟨o3, q3, e3, _, c3⟩ := (hA.no hk).2 (m - 1) xn h3
  obtain ⟨o4, q4, e4, _, c4⟩ := (hR.no hk).2 (m - 1) yn h4
  injection e3 with e3
  injection e3 with e3a e3b
  injection e4 with e4
  injection e4 with e4a e4b
  subst e3a e3b e4a e4b
  rw [Nat.add_zero] at c1 c2
  obtain ⟨k, hkm⟩ : ∃ k, k = m - 1 := ⟨_, rfl⟩
  rw [← hkm] at c3 c4
  have hki : (m : Int) - 1 = (k : Int) := by omega
  have hkl : k < m := by omega
  have HK := Lib.hid hk
  clear hkm h1 h2 h3 h4 hR hA hk
  unfold rowV
  generalize hw0 : w.alloc (.cells #[.int .i64 W, .int .i64 b, .int .i64 z, .slice (some ⟨o2, q2, none⟩) m cr] 54) = w0 at *
  go_enter Try.func28, Try.ntmps28
  go_wp2_with fail
  go_quiet (fail)
  go_wp2_with fail
  go_ret
  refine ⟨ret_bool ?_, HK.out.tr (Kp.drewN No _ _)⟩
  simp
end Go.Proofs.Ytakgcnjpmpcekaa
