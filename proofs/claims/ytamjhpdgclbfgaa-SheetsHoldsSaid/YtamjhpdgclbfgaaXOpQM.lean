/- Chapter 09: the law of Holds: plain, and the walk. · Chapter 09: how a pipe that came in is read. -/
import Derived.ProofKit
import Derived.OpenShut
import Derived.Deep.Slices
import Derived.Deep.Fields
import Derived.ChangeSame
import Derived.Test.YtamjhpdgclbfgaaXPlBM
import Derived.Test.YtamjhpdgclbfgaaXAwk
import Derived.Test.YtamjhpdgclbfgaaXNug
import Derived.Test.YtamjhpdgclbfgaaXLibQuoFM
import Derived.Test.YtamjhpdgclbfgaaXSpaM
namespace Go.Proofs.Ytamjhpdgclbfgaa
open Go.RowKit Go.Kq

theorem pi_ref {h : Int} (h0 : 0 ≤ h) (h1 : h ≤ 1000000) : spanL (pisL [(h : Rat), (h : Rat)]) = (piD h, piU h, 0) := by
  obtain ⟨_, p2, p3, p4, p5⟩ := pi_span (a := h) (b := h) h0 (Int.le_refl _) (by omega)
  have hle : (h : Rat) * piL ≤ (h : Rat) * piH := Rat.mul_le_mul_of_nonneg_left (of_decide_eq_true (by kernel_rfl)) (by exact_mod_cast h0)
  have e1 : ((h : Rat) * piL).floor = piD h := floor_rnd (by decide) (scale_mul h _ _ (by decide))
  have e2 : ((h : Rat) * piH).ceil = piU h := ceil_rnd (by decide) (scale_mul h _ _ (by decide))
  have hs : spanL (pisL [(h : Rat), (h : Rat)]) = spanE ((h : Rat) * piL).floor ((h : Rat) * piH).ceil := by
    simp only [pisL]
    generalize (h : Rat) * piL = a at *
    generalize (h : Rat) * piH = b at *
    refine spanL_of (by simp) ?_ (by simp) ?_
    · intro y hy
      simp only [List.mem_cons, List.not_mem_nil, or_false] at hy
      rcases hy with rfl | rfl | rfl | rfl <;> first | exact Rat.le_refl | exact hle
    · intro y hy
      simp only [List.mem_cons, List.not_mem_nil, or_false] at hy
      rcases hy with rfl | rfl | rfl | rfl <;> first | exact Rat.le_refl | exact hle
  rw [hs, e1, e2]
  unfold spanE in62
  rw [decide_eq_true (by omega), decide_eq_true (by omega)]
  rfl
theorem footH_le {top toe l : Int} (ht : 1000 ≤ top ∧ top ≤ 1000000) (hl : 1000 ≤ l ∧ l ≤ 12000000) (h0 : 0 ≤ toe ∧ toe ≤ top) : footH top toe l ≤ 48000000 := by
  obtain ⟨r1, r2, _⟩ := sl_bd ht hl h0
  have sl := sl_in ⟨r1, r2⟩
  have hx0 := Int.mul_nonneg (a := top) (b := top - toe) (by omega) (by omega)
  have hx1 := Int.mul_le_mul (a := top) (b := top - toe) (c := 1000000) (d := 1000000) (by omega) (by omega) (by omega) (by omega)
  obtain ⟨_, p2, p3, p4, p5⟩ := pi_span (a := top * (top - toe)) (b := top * (top - toe)) hx0 (Int.le_refl _) (by omega)
  obtain ⟨_, q2, q3, q4, q5⟩ := pi_span (a := piD (top * (top - toe))) (b := piU (top * (top - toe))) p2 p3 (by omega)
  have hd : 2 * (top - toe) ≤ slL (slR top toe l) * 8 := by
    have e : slL (slR top toe l) = ((isq (slR top toe l).toNat : Nat) : Int) / 2 := rfl
    have i1 := (isq_spec (slR top toe l).toNat).2
    have hn : (top - toe).toNat ≤ isq (slR top toe l).toNat := by
      rcases Nat.lt_or_ge (isq (slR top toe l).toNat) (top - toe).toNat with h | h
      · exfalso
        have i2 := Nat.mul_le_mul (show isq (slR top toe l).toNat + 1 ≤ (top - toe).toNat by omega) (show isq (slR top toe l).toNat + 1 ≤ (top - toe).toNat by omega)
        have i3 : ((slR top toe l).toNat : Int) < (((top - toe).toNat * (top - toe).toNat : Nat) : Int) := by exact_mod_cast Nat.lt_of_lt_of_le i1 i2
        rw [Int.natCast_mul, Int.toNat_of_nonneg (by omega), Int.toNat_of_nonneg (by omega)] at i3
        have i4 := Int.mul_nonneg (a := l) (b := l) (by omega) (by omega)
        have e5 : slR top toe l = 4 * (l * l) + (top - toe) * (top - toe) := by unfold slR; rw [Int.mul_assoc]
        omega
      · exact h
    omega
  have hm := Int.mul_le_mul (a := 8 * top) (b := 2 * (top - toe)) (c := 8000000) (d := slL (slR top toe l) * 8) (by omega) hd (by omega) (by omega)
  have em : 8 * top * (2 * (top - toe)) = 16 * (top * (top - toe)) := by
    rw [Int.mul_assoc, Int.mul_left_comm top 2, ← Int.mul_assoc 8 2]
    rfl
  have er : rnd true (piU (piU (top * (top - toe)))) (slL (slR top toe l) * 8) = -((-(piU (piU (top * (top - toe))))) / (slL (slR top toe l) * 8)) := rfl
  have hq : -8000000 ≤ (-(piU (piU (top * (top - toe))))) / (slL (slR top toe l) * 8) := by
    rw [Int.le_ediv_iff_mul_le (by omega)]
    omega
  unfold footH
  omega
theorem holds_plain {x y z u : Int} (ht : outB y 0 1000000 = false) (hb : bodyE x z u = false) (h3 : ¬ x < y) :
    (1000 ≤ x ∧ x ≤ 1000000) ∧ (1000 ≤ z ∧ z ≤ 12000000) ∧ (0 ≤ u ∧ u ≤ 20000) ∧ (0 ≤ y ∧ y ≤ x) ∧ bodyV x z u = (⟨piU x + u, z⟩, 0) ∧ footV x y z u = (⟨piU x + u, footH x y z⟩, 0) ∧ footV x x z u = (⟨piU x + u, z⟩, 0)
      ∧ z ≤ footH x y z ∧ footH x y z ≤ 48000000 ∧ slR x y z ≤ 4 * footH x y z * footH x y z ∧ 0 ≤ piU x ∧ piU x ≤ 4000000 ∧ piD ((x + y) / 2) ≤ piU x := by
  have hb' := hb
  unfold bodyE at hb'
  simp only [Bool.or_eq_false_iff] at hb'
  obtain ⟨⟨b1, b2⟩, b3⟩ := hb'
  have c1 := outB_no b1
  have c2 := outB_no b2
  have c3 := outB_no b3
  have c0 := outB_no ht
  have hy : 0 ≤ y ∧ y ≤ x := by omega
  have hxo : outB x 0 1000000 = false := by
    unfold outB
    simp
    omega
  have hg := foot_ge c1 c2 hy
  have hl := footH_le c1 c2 hy
  obtain ⟨r1, r2, _⟩ := sl_bd c1 c2 hy
  obtain ⟨s0, s1⟩ := slH_sq (r := slR x y z) (by omega)
  have sz : z ≤ slH (slR x y z) := slH_ge (by
    have := Int.mul_nonneg (a := x - y) (b := x - y) (by omega) (by omega)
    have e5 : slR x y z = 4 * (z * z) + (x - y) * (x - y) := by unfold slR; rw [Int.mul_assoc]
    omega) (by omega)
  obtain ⟨_, p2, p3, p4, p5⟩ := pi_span (a := x) (b := x) (by omega) (Int.le_refl _) (by omega)
  have hh : piD ((x + y) / 2) ≤ piU x := by
    have e1 : piD ((x + y) / 2) = ((x + y) / 2 * 3141592653589793238) / 1000000000000000000 := rfl
    have e2 : piU x = -((-(x * 3141592653589793239)) / 1000000000000000000) := rfl
    rw [e1, e2]
    omega
  refine ⟨c1, c2, c3, hy, ?_, ?_, ?_, by omega, hl, ?_, by omega, by omega, hh⟩
  · unfold bodyV
    rw [hb]
    rfl
  · unfold footV
    rw [ht, hb, if_neg (by decide), if_neg (by decide), if_neg h3]
  · unfold footV
    rw [hxo, hb, if_neg (by decide), if_neg (by decide), if_neg (by omega), foot_body x z (by omega)]
  · have := Int.mul_le_mul hg hg s0 (by omega)
    rw [Int.mul_assoc]
    omega
theorem holds_err {x y z u : Int} (h : outB y 0 1000000 = true ∨ bodyE x z u = true ∨ x < y) : ∃ a b e f, bodyV x z u = (a, e) ∧ footV x y z u = (b, f) ∧ ((e = 2 ∧ f = 2) ∨ (e = 0 ∧ f = 2) ∨ (e = 0 ∧ f = 7)) := by
  cases hb : bodyE x z u with
  | true =>
    refine ⟨⟨0, 0⟩, ⟨0, 0⟩, 2, 2, ?_, ?_, .inl ⟨rfl, rfl⟩⟩
    · unfold bodyV
      rw [hb]
      rfl
    · unfold footV
      rw [hb]
      split <;> rfl
  | false =>
    cases ho : outB y 0 1000000 with
    | true =>
      refine ⟨⟨piU x + u, z⟩, ⟨0, 0⟩, 0, 2, ?_, ?_, .inr (.inl ⟨rfl, rfl⟩)⟩
      · unfold bodyV
        rw [hb]
        rfl
      · unfold footV
        rw [ho]
        rfl
    | false =>
      have hlt : x < y := by
        rcases h with h | h | h
        · rw [ho] at h; cases h
        · rw [hb] at h; cases h
        · exact h
      refine ⟨⟨piU x + u, z⟩, ⟨0, 0⟩, 0, 7, ?_, ?_, .inr (.inr ⟨rfl, rfl⟩)⟩
      · unfold bodyV
        rw [hb]
        rfl
      · unfold footV
        rw [ho, hb, if_neg (by decide), if_neg (by decide), if_pos hlt]
set_option maxHeartbeats 8000000 in
set_option maxRecDepth 100000 in
theorem tholds_err (x y z u : Int) (w : World) (h : outB y 0 1000000 = true ∨ bodyE x z u = true ∨ x < y) :
    Calls Try.prog 5 #[.agg #[.int .i64 x, .int .i64 y, .int .i64 z, .int .i64 u]] w fun e w' => e = .returned (.bool true) ∧ Kp No w w' := by
  obtain ⟨⟨a1, a2⟩, ⟨b1, b2⟩, e, f, h1, h2, hef⟩ := holds_err h
  clear h
  have HB := Lib.hid (fun w0 => Body_any x z u w0)
  have HF := Lib.hid (fun w0 => Foot_any x y z u w0)
  rw [h1] at HB
  rw [h2] at HF
  simp only [Ct.val] at HB HF
  clear h1 h2
  obtain ⟨g0, hg0⟩ : ∃ g0, g0 = w.heap.size := ⟨_, rfl⟩
  have hk0 : Kp No w (w.alloc (.cells #[.int .i64 x, .int .i64 y, .int .i64 z, .int .i64 u] 33)) := Kp.alloc _ _ _
  have h0 : (w.alloc (.cells #[.int .i64 x, .int .i64 y, .int .i64 z, .int .i64 u] 33)).heap[g0]? = some (.cells #[.int .i64 x, .int .i64 y, .int .i64 z, .int .i64 u] 33 (0, 0)) := by rw [hg0]; exact heap_alloc_new _ _
  obtain ⟨p0, p1, p2, p3⟩ : (w.alloc (.cells #[.int .i64 x, .int .i64 y, .int .i64 z, .int .i64 u] 33)).cell? ⟨g0, 0, none⟩ = some (.int .i64 x) ∧ (w.alloc (.cells #[.int .i64 x, .int .i64 y, .int .i64 z, .int .i64 u] 33)).cell? ⟨g0, 1, none⟩ = some (.int .i64 y) ∧ (w.alloc (.cells #[.int .i64 x, .int .i64 y, .int .i64 z, .int .i64 u] 33)).cell? ⟨g0, 2, none⟩ = some (.int .i64 z) ∧ (w.alloc (.cells #[.int .i64 x, .int .i64 y, .int .i64 z, .int .i64 u] 33)).cell? ⟨g0, 3, none⟩ = some (.int .i64 u) := ⟨by rw [cell_of_row _ _ _ _ _ _ h0]; rfl, by rw [cell_of_row _ _ _ _ _ _ h0]; rfl, by rw [cell_of_row _ _ _ _ _ _ h0]; rfl, by rw [cell_of_row _ _ _ _ _ _ h0]; rfl⟩
  rcases hef with ⟨rfl, rfl⟩ | ⟨rfl, rfl⟩ | ⟨rfl, rfl⟩
  all_goals
    go_enter Try.func5, Try.ntmps5
    go_wp2_with fail
    rw [← hg0]
    generalize w.alloc (.cells #[.int .i64 x, .int .i64 y, .int .i64 z, .int .i64 u] 33) = w0 at *
    clear hg0
    with_reducible refine (HB.out w0).mono ?_
    rintro e w1 ⟨rfl, k1⟩
    have K1 := Lib.hid (hk0.tr k1)
    have q0 := k1.cell p0 id
    have q1 := k1.cell p1 id
    have q2 := k1.cell p2 id
    have q3 := k1.cell p3 id
    clear k1 hk0 h0 p0 p1 p2 p3 HB
    obtain ⟨w2, hw2⟩ : ∃ w2, w1.alloc (.cells #[.int .i64 a1, .int .i64 a2] 35) = w2 := ⟨_, rfl⟩
    have k2 : Kp No w1 w2 := by rw [← hw2]; exact Kp.alloc _ _ _
    have K2 := Lib.hid (K1.out.tr k2)
    have r0 := k2.cell q0 id
    have r1 := k2.cell q1 id
    have r2 := k2.cell q2 id
    have r3 := k2.cell q3 id
    clear k2 K1 q0 q1 q2 q3
    go_wp2_with fail
    clear hw2
    with_reducible refine (HF.out w2).mono ?_
    rintro e w3 ⟨rfl, k3⟩
    have K3 := Lib.hid (K2.out.tr k3)
    clear k3 K2 HF r0 r1 r2 r3
    obtain ⟨w4, hw4⟩ : ∃ w4, w3.alloc (.cells #[.int .i64 b1, .int .i64 b2] 35) = w4 := ⟨_, rfl⟩
    have k4 : Kp No w3 w4 := by rw [← hw4]; exact Kp.alloc _ _ _
    have K4 := Lib.hid (K3.out.tr k4)
    clear k4 K3
    go_wp2_with fail
    clear hw4
    with_reducible refine (awake_any w4).mono ?_
    rintro e w5 ⟨rfl, k5⟩
    have K5 := Lib.hid (K4.out.tr k5)
    clear k5
    go_wp2_with fail
    go_ret
    exact ⟨rfl, K5.out⟩
set_option maxHeartbeats 8000000 in
set_option maxRecDepth 100000 in
theorem tholds_ok (x y z u : Int) (w : World) (ht : outB y 0 1000000 = false) (hb : bodyE x z u = false) (h3 : ¬ x < y) :
    Calls Try.prog 5 #[.agg #[.int .i64 x, .int .i64 y, .int .i64 z, .int .i64 u]] w fun e w' => e = .returned (.bool true) ∧ Kp No w w' := by
  obtain ⟨c1, c2, c3, hy, v1, v2, v3, hH, hH2, hsl, hp0, hp1, hpd⟩ := holds_plain ht hb h3
  have HB := Lib.hid (fun w0 => Body_any x z u w0)
  have HF := Lib.hid (fun w0 => Foot_any x y z u w0)
  have HG := Lib.hid (fun w0 => Foot_any x x z u w0)
  have HP := Lib.hid (fun w0 => pi03_is ((x + y) / 2, (x + y) / 2) w0 (ck_one _ (by omega) (by omega)))
  rw [v1] at HB
  rw [v2] at HF
  rw [v3] at HG
  rw [pi_ref (by omega) (by omega)] at HP
  simp only [Ct.val, ieV, ivV] at HB HF HG HP
  clear v1 v2 v3
  obtain ⟨sl, hsl0⟩ : ∃ s, slR x y z = s := ⟨_, rfl⟩
  have r1 := sl_bd c1 c2 hy
  rw [hsl0] at hsl r1
  unfold slR at hsl0
  have sq1 := r1.2.2.2.2.1
  have sq0 := r1.2.2.1
  have sq2 := r1.2.2.2.1
  have sq3 := r1.2.2.2.2.2.1
  have sq4 := r1.2.2.2.2.2.2
  have hl4 := Int.mul_nonneg (a := footH x y z) (b := footH x y z) (by omega) (by omega)
  have hl5 := Int.mul_le_mul (a := footH x y z) (b := footH x y z) (c := 48000000) (d := 48000000) (by omega) (by omega) (by omega) (by omega)
  have hwr : wrap64 (4 * footH x y z * footH x y z) = 4 * (footH x y z * footH x y z) := by
    rw [Int.mul_assoc]
    unfold wrap64
    omega
  have hn1 : (4 * (footH x y z * footH x y z) < 4 * (z * z) + (x - y) * (x - y)) = False := by
    rw [Int.mul_assoc] at hsl
    rw [← hsl0, sq4] at hsl
    exact eq_false (by omega)
  have hn2 : (footH x y z < z) = False := eq_false (by omega)
  clear hsl hsl0
  generalize footH x y z = H at *
  generalize piU x = U at *
  generalize piD ((x + y) / 2) = D at *
  generalize piU ((x + y) / 2) = D2 at *
  obtain ⟨g0, hg0⟩ : ∃ g0, g0 = w.heap.size := ⟨_, rfl⟩
  have hk0 : Kp No w (w.alloc (.cells #[.int .i64 x, .int .i64 y, .int .i64 z, .int .i64 u] 33)) := Kp.alloc _ _ _
  have h0 : (w.alloc (.cells #[.int .i64 x, .int .i64 y, .int .i64 z, .int .i64 u] 33)).heap[g0]? = some (.cells #[.int .i64 x, .int .i64 y, .int .i64 z, .int .i64 u] 33 (0, 0)) := by rw [hg0]; exact heap_alloc_new _ _
  obtain ⟨p0, p1, p2, p3⟩ : (w.alloc (.cells #[.int .i64 x, .int .i64 y, .int .i64 z, .int .i64 u] 33)).cell? ⟨g0, 0, none⟩ = some (.int .i64 x) ∧ (w.alloc (.cells #[.int .i64 x, .int .i64 y, .int .i64 z, .int .i64 u] 33)).cell? ⟨g0, 1, none⟩ = some (.int .i64 y) ∧ (w.alloc (.cells #[.int .i64 x, .int .i64 y, .int .i64 z, .int .i64 u] 33)).cell? ⟨g0, 2, none⟩ = some (.int .i64 z) ∧ (w.alloc (.cells #[.int .i64 x, .int .i64 y, .int .i64 z, .int .i64 u] 33)).cell? ⟨g0, 3, none⟩ = some (.int .i64 u) := ⟨by rw [cell_of_row _ _ _ _ _ _ h0]; rfl, by rw [cell_of_row _ _ _ _ _ _ h0]; rfl, by rw [cell_of_row _ _ _ _ _ _ h0]; rfl, by rw [cell_of_row _ _ _ _ _ _ h0]; rfl⟩
  go_enter Try.func5, Try.ntmps5
  go_wp2_with fail
  rw [← hg0]
  generalize w.alloc (.cells #[.int .i64 x, .int .i64 y, .int .i64 z, .int .i64 u] 33) = w0 at *
  clear hg0
  with_reducible refine (HB.out w0).mono ?_
  rintro e w1 ⟨rfl, k1⟩
  have K1 := Lib.hid (hk0.tr k1)
  have p0_1 := k1.cell p0 id
  have p1_1 := k1.cell p1 id
  have p2_1 := k1.cell p2 id
  have p3_1 := k1.cell p3 id
  clear k1 hk0 p0 p1 p2 p3 h0 HB
  obtain ⟨g1, hg1⟩ : ∃ g1, w1.heap.size = g1 := ⟨_, rfl⟩
  obtain ⟨w2, hw2⟩ : ∃ w2, w1.alloc (.cells #[.int .i64 (U + u), .int .i64 z] 35) = w2 := ⟨_, rfl⟩
  have k2 : Kp No w1 w2 := by rw [← hw2]; exact Kp.alloc _ _ _
  have A2 : w2.heap[g1]? = some (.cells #[.int .i64 (U + u), .int .i64 z] 35 (0, 0)) := by rw [← hw2, ← hg1]; exact heap_alloc_new _ _
  have K2 := Lib.hid (K1.out.tr k2)
  have p0_2 := k2.cell p0_1 id
  have p1_2 := k2.cell p1_1 id
  have p2_2 := k2.cell p2_1 id
  have p3_2 := k2.cell p3_1 id
  have a0_2 : w2.cell? ⟨g1, 0, none⟩ = some (.int .i64 (U + u)) := by rw [cell_of_row _ _ _ _ _ _ A2]; rfl
  have a1_2 : w2.cell? ⟨g1, 1, none⟩ = some (.int .i64 z) := by rw [cell_of_row _ _ _ _ _ _ A2]; rfl
  clear k2 A2 K1 p0_1 p1_1 p2_1 p3_1
  go_wp2_with fail
  clear hw2 hg1
  with_reducible refine (HF.out w2).mono ?_
  rintro e w3 ⟨rfl, k3⟩
  have K3 := Lib.hid (K2.out.tr k3)
  have p0_3 := k3.cell p0_2 id
  have p1_3 := k3.cell p1_2 id
  have p2_3 := k3.cell p2_2 id
  have p3_3 := k3.cell p3_2 id
  have a0_3 := k3.cell a0_2 id
  have a1_3 := k3.cell a1_2 id
  clear k3 K2 p0_2 p1_2 p2_2 p3_2 a0_2 a1_2 HF
  obtain ⟨g2, hg2⟩ : ∃ g2, w3.heap.size = g2 := ⟨_, rfl⟩
  obtain ⟨w4, hw4⟩ : ∃ w4, w3.alloc (.cells #[.int .i64 (U + u), .int .i64 H] 35) = w4 := ⟨_, rfl⟩
  have k4 : Kp No w3 w4 := by rw [← hw4]; exact Kp.alloc _ _ _
  have A4 : w4.heap[g2]? = some (.cells #[.int .i64 (U + u), .int .i64 H] 35 (0, 0)) := by rw [← hw4, ← hg2]; exact heap_alloc_new _ _
  have K4 := Lib.hid (K3.out.tr k4)
  have p0_4 := k4.cell p0_3 id
  have p1_4 := k4.cell p1_3 id
  have p2_4 := k4.cell p2_3 id
  have p3_4 := k4.cell p3_3 id
  have a0_4 := k4.cell a0_3 id
  have a1_4 := k4.cell a1_3 id
  have b0_4 : w4.cell? ⟨g2, 0, none⟩ = some (.int .i64 (U + u)) := by rw [cell_of_row _ _ _ _ _ _ A4]; rfl
  have b1_4 : w4.cell? ⟨g2, 1, none⟩ = some (.int .i64 H) := by rw [cell_of_row _ _ _ _ _ _ A4]; rfl
  clear k4 A4 K3 p0_3 p1_3 p2_3 p3_3 a0_3 a1_3
  go_wp2_with fail
  clear hw4 hg2
  with_reducible refine (HG.out w4).mono ?_
  rintro e w5 ⟨rfl, k5⟩
  have K5 := Lib.hid (K4.out.tr k5)
  have p0_5 := k5.cell p0_4 id
  have p1_5 := k5.cell p1_4 id
  have p2_5 := k5.cell p2_4 id
  have p3_5 := k5.cell p3_4 id
  have a0_5 := k5.cell a0_4 id
  have a1_5 := k5.cell a1_4 id
  have b0_5 := k5.cell b0_4 id
  have b1_5 := k5.cell b1_4 id
  clear k5 K4 p0_4 p1_4 p2_4 p3_4 a0_4 a1_4 b0_4 b1_4 HG
  obtain ⟨g3, hg3⟩ : ∃ g3, w5.heap.size = g3 := ⟨_, rfl⟩
  obtain ⟨w6, hw6⟩ : ∃ w6, w5.alloc (.cells #[.int .i64 (U + u), .int .i64 z] 35) = w6 := ⟨_, rfl⟩
  have k6 : Kp No w5 w6 := by rw [← hw6]; exact Kp.alloc _ _ _
  have A6 : w6.heap[g3]? = some (.cells #[.int .i64 (U + u), .int .i64 z] 35 (0, 0)) := by rw [← hw6, ← hg3]; exact heap_alloc_new _ _
  have K6 := Lib.hid (K5.out.tr k6)
  have p0_6 := k6.cell p0_5 id
  have p1_6 := k6.cell p1_5 id
  have p2_6 := k6.cell p2_5 id
  have p3_6 := k6.cell p3_5 id
  have a0_6 := k6.cell a0_5 id
  have a1_6 := k6.cell a1_5 id
  have b0_6 := k6.cell b0_5 id
  have b1_6 := k6.cell b1_5 id
  have c0_6 : w6.cell? ⟨g3, 0, none⟩ = some (.int .i64 (U + u)) := by rw [cell_of_row _ _ _ _ _ _ A6]; rfl
  have c1_6 : w6.cell? ⟨g3, 1, none⟩ = some (.int .i64 z) := by rw [cell_of_row _ _ _ _ _ _ A6]; rfl
  clear k6 A6 K5 p0_5 p1_5 p2_5 p3_5 a0_5 a1_5 b0_5 b1_5
  have ceq : ∀ w', (Op.equalIn 10000 35 (.agg #[.int .i64 (U + u), .int .i64 z]) (.agg #[.int .i64 (U + u), .int .i64 z])).run Try.prog w' = .ok true w' := fun w' => by rw [ct_equal]; simp
  go_wp2_with fail
  clear hw6 hg3
  with_reducible refine (HP.out w6).mono ?_
  rintro e w7 ⟨rfl, k7⟩
  have K7 := Lib.hid (K6.out.tr k7)
  have p0_7 := k7.cell p0_6 id
  have p1_7 := k7.cell p1_6 id
  have p2_7 := k7.cell p2_6 id
  have p3_7 := k7.cell p3_6 id
  have a0_7 := k7.cell a0_6 id
  have a1_7 := k7.cell a1_6 id
  have b0_7 := k7.cell b0_6 id
  have b1_7 := k7.cell b1_6 id
  have c0_7 := k7.cell c0_6 id
  have c1_7 := k7.cell c1_6 id
  clear k7 K6 p0_6 p1_6 p2_6 p3_6 a0_6 a1_6 b0_6 b1_6 c0_6 c1_6 HP
  obtain ⟨g4, hg4⟩ : ∃ g4, w7.heap.size = g4 := ⟨_, rfl⟩
  obtain ⟨w8, hw8⟩ : ∃ w8, w7.alloc (.cells #[.int .i64 D, .int .i64 D2] 40) = w8 := ⟨_, rfl⟩
  have k8 : Kp No w7 w8 := by rw [← hw8]; exact Kp.alloc _ _ _
  have A8 : w8.heap[g4]? = some (.cells #[.int .i64 D, .int .i64 D2] 40 (0, 0)) := by rw [← hw8, ← hg4]; exact heap_alloc_new _ _
  have K8 := Lib.hid (K7.out.tr k8)
  have p0_8 := k8.cell p0_7 id
  have p1_8 := k8.cell p1_7 id
  have p2_8 := k8.cell p2_7 id
  have p3_8 := k8.cell p3_7 id
  have a0_8 := k8.cell a0_7 id
  have a1_8 := k8.cell a1_7 id
  have b0_8 := k8.cell b0_7 id
  have b1_8 := k8.cell b1_7 id
  have c0_8 := k8.cell c0_7 id
  have c1_8 := k8.cell c1_7 id
  have d0_8 : w8.cell? ⟨g4, 0, none⟩ = some (.int .i64 D) := by rw [cell_of_row _ _ _ _ _ _ A8]; rfl
  have d1_8 : w8.cell? ⟨g4, 1, none⟩ = some (.int .i64 D2) := by rw [cell_of_row _ _ _ _ _ _ A8]; rfl
  clear k8 A8 K7 p0_7 p1_7 p2_7 p3_7 a0_7 a1_7 b0_7 b1_7 c0_7 c1_7
  go_wp2_with fail
  clear hw8 hg4
  with_reducible refine (awake_any w8).mono ?_
  rintro e w9 ⟨rfl, k9⟩
  have K9 := Lib.hid (K8.out.tr k9)
  clear k9
  go_wp2_with fail
  go_ret
  exact ⟨rfl, K9.out⟩

theorem tholds_any (x y z u : Int) (w : World) :
    Calls Try.prog 5 #[.agg #[.int .i64 x, .int .i64 y, .int .i64 z, .int .i64 u]] w fun e w' => e = .returned (.bool true) ∧ Kp No w w' := by
  by_cases h : outB y 0 1000000 = true ∨ bodyE x z u = true ∨ x < y
  · exact tholds_err x y z u w h
  · exact tholds_ok x y z u w (by cases ho : outB y 0 1000000 <;> simp_all) (by cases ho : bodyE x z u <;> simp_all) (fun e => h (.inr (.inr e)))
end Go.Proofs.Ytamjhpdgclbfgaa

namespace Go.Proofs.Ytamjhpdgclbfgaa
open Go.ChangeShapes Go.WideShapes Go.RowKit Go.Deep Go.Kq

section
variable {H : Type} {enc : TypeId × Value → H} {W : World} {base : Nat} {spare : Nat → Bool} {held : Bool}
theorem one_long {fuel : Nat} {v : Value} {y : DataW H × List MemPlace} (h : DataW.trod enc Try.prog W base spare held fuel 2 [v] = some y) : ∃ x : Int, v = .int .i64 x := by
  obtain ⟨x, h1, _⟩ := DataW.trod_int Try.underlying2 h
  simp at h1
  exact ⟨x, h1⟩
theorem cLong : Try.prog.cellsOf 2 = 1 := by kernel_rfl
theorem fld {t : TypeId} {fs : Array Field} {fuel : Nat} {cs : List Value} {y : DataW H × List MemPlace} (ht : Try.prog.underlying t = some (.struct fs)) (h : DataW.trod enc Try.prog W base spare held fuel t cs = some y) (i : Nat) (f : Field) (o k : Nat) (e : TypeId) (hf : fs[i]? = some f) (ho : f.offset = o) (he : f.type = e) (hk : Try.prog.cellsOf e = k) :
    ∃ n y, DataW.trod enc Try.prog W base spare held n e ((cs.drop o).take k) = some y := by
  obtain ⟨xs, n, _, _, _, hl, hx⟩ := DataW.trod_struct ht h
  have g := hx i f hf
  have hi := (Array.getElem?_eq_some_iff.1 hf).1
  rw [ho, he, hk, List.getElem?_eq_getElem (by omega)] at g
  exact ⟨n, _, g⟩
theorem cPipe : Try.prog.cellsOf 33 = 4 := by kernel_rfl
set_option maxRecDepth 100000 in
/-- Four numbers that came in. -/
theorem open_pipe {v : Value} {d : DataW H} {p : List MemPlace} {r : Reach} {b0 : Nat} (hv : Value.okWide Try.prog W r b0 33 v) (h : DataW.Trod enc Try.prog W base (fun _ => true) held 33 v d p) :
    ∃ x y z u : Int, v = .agg #[.int .i64 x, .int .i64 y, .int .i64 z, .int .i64 u] := by
  obtain ⟨cs, rfl, hsz⟩ := okWide_struct Try.underlying33 hv
  rw [cPipe] at hsz
  obtain ⟨fuel, hf⟩ := h
  obtain ⟨l⟩ := cs
  match l, hsz with
  | [a0, a1, a2, a3], _ =>
    obtain ⟨n0, y0, h0⟩ := fld Try.underlying33 hf 0 _ 0 1 2 rfl rfl rfl cLong
    obtain ⟨n1, y1, h1⟩ := fld Try.underlying33 hf 1 _ 1 1 2 rfl rfl rfl cLong
    obtain ⟨n2, y2, h2⟩ := fld Try.underlying33 hf 2 _ 2 1 2 rfl rfl rfl cLong
    obtain ⟨n3, y3, h3⟩ := fld Try.underlying33 hf 3 _ 3 1 2 rfl rfl rfl cLong
    simp [Value.cells] at h0 h1 h2 h3
    obtain ⟨x, rfl⟩ := one_long h0
    obtain ⟨y, rfl⟩ := one_long h1
    obtain ⟨z, rfl⟩ := one_long h2
    obtain ⟨u, rfl⟩ := one_long h3
    exact ⟨x, y, z, u, rfl⟩
end
end Go.Proofs.Ytamjhpdgclbfgaa
