/- Chapter 09: Body, Weight, large. · Chapter 09: Weight, Least. · Chapter 09: the reference's from, valid, cuts. -/
import Derived.Test.YtamjhpdgclbfgaaGreatXLibBitM
import Derived.Test.YtamjhpdgclbfgaaGreatXSpyM
namespace Go.Proofs.YtamjhpdgclbfgaaGreat
open Go.RowKit Go.Kq

theorem ck_one (n : Int) (h : -4611686018427387904 ≤ n) (h2 : n ≤ 4611686018427387904) : ckE [(n, n)] = 0 := by
  have f : fits n = true := by unfold fits M62; simp; omega
  unfold ckE
  rw [if_pos (by intro x hx; simp at hx; subst hx; exact ⟨f, f⟩), if_pos (by intro x hx; simp at hx; subst hx; exact Int.le_refl _)]
theorem outB_no {n a b : Int} (h : outB n a b = false) : a ≤ n ∧ n ≤ b := by
  unfold outB at h
  simp at h
  omega
/-- pi times a number from 0 on, rounded up, or down. -/
def piU (n : Int) : Int := rnd true (n * 3141592653589793239) 1000000000000000000
def piD (n : Int) : Int := rnd false (n * 3141592653589793238) 1000000000000000000
theorem pi_span {a b : Int} (h0 : 0 ≤ a) (h1 : a ≤ b) (h2 : b ≤ 1000000000000000000) : spanV 1000000000000000000 (a * 3141592653589793238) [a * 3141592653589793239, b * 3141592653589793238, b * 3141592653589793239] = (piD a, piU b, 0) ∧ 0 ≤ piD a ∧ piD a ≤ piU b ∧ 3 * a ≤ piD a ∧ piU b ≤ 4 * b := by
  have e1 : minL (a * 3141592653589793238) [a * 3141592653589793239, b * 3141592653589793238, b * 3141592653589793239] = a * 3141592653589793238 := by
    simp only [minL]
    omega
  have e2 : maxL (a * 3141592653589793238) [a * 3141592653589793239, b * 3141592653589793238, b * 3141592653589793239] = b * 3141592653589793239 := by
    simp only [maxL]
    omega
  have d : piD a = (a * 3141592653589793238) / 1000000000000000000 := rfl
  have u : piU b = -((-(b * 3141592653589793239)) / 1000000000000000000) := rfl
  have hd : 0 ≤ piD a ∧ piD a ≤ piU b ∧ 3 * a ≤ piD a ∧ piU b ≤ 4 * b := by rw [d, u]; omega
  refine ⟨?_, hd⟩
  unfold spanV
  rw [e1, e2]
  have f1 : fits (rnd false (a * 3141592653589793238) 1000000000000000000) = true := by
    change fits (piD a) = true
    unfold fits M62
    simp
    omega
  have f2 : fits (rnd true (b * 3141592653589793239) 1000000000000000000) = true := by
    change fits (piU b) = true
    unfold fits M62
    simp
    omega
  rw [f1, f2]
  rfl
def bodyE (d l s : Int) : Bool := outB d 1000 1000000 || outB l 1000 12000000 || outB s 0 20000
def bodyV (d l s : Int) : Ct × Int := if bodyE d l s then (⟨0, 0⟩, 2) else (⟨piU d + s, l⟩, 0)
set_option maxHeartbeats 4000000 in
theorem Body_any (d l s : Int) (w : World) : Calls Tryz.prog 5 #[.int .i64 d, .int .i64 l, .int .i64 s] w fun e w' => e = .returned (.tuple #[(bodyV d l s).1.val, .int .i64 (bodyV d l s).2]) ∧ Kp No w w' := by
  have O1 := Lib.hid (fun w0 => outside_any d 1000 1000000 w0)
  have O2 := Lib.hid (fun w0 => outside_any l 1000 12000000 w0)
  have O3 := Lib.hid (fun w0 => outside_any s 0 20000 w0)
  have HV := Lib.hid (show bodyV d l s = if bodyE d l s then (⟨0, 0⟩, 2) else (⟨piU d + s, l⟩, 0) from rfl)
  have HB : bodyE d l s = (outB d 1000 1000000 || outB l 1000 12000000 || outB s 0 20000) := rfl
  have hq1 : outB d 1000 1000000 = false → 1000 ≤ d ∧ d ≤ 1000000 := outB_no
  have hq3 : outB s 0 20000 = false → 0 ≤ s ∧ s ≤ 20000 := outB_no
  generalize bodyE d l s = be at *
  generalize outB d 1000 1000000 = q1 at *
  generalize outB l 1000 12000000 = q2 at *
  generalize outB s 0 20000 = q3 at *
  have HK0 := Lib.hid (show Kp No w (w.alloc (.cells #[.int .i64 0, .int .i64 0] 25)) from Kp.alloc _ _ _)
  have p0 : (w.alloc (.cells #[.int .i64 0, .int .i64 0] 25)).cell? ⟨w.heap.size, 0, none⟩ = some (.int .i64 0) := by go_simp
  have p1 : (w.alloc (.cells #[.int .i64 0, .int .i64 0] 25)).cell? ⟨w.heap.size, 1, none⟩ = some (.int .i64 0) := by go_simp
  rw [HV.out]
  clear HV
  cases q1
  rotate_left
  · obtain rfl : be = true := by rw [HB]; rfl
    rw [if_pos rfl]
    clear HB hq1 hq3
    go_enter Tryz.func5, Tryz.ntmps5
    go_wp2_with fail
    with_reducible refine (O1.out _).mono ?_
    rintro e w1 ⟨rfl, hw⟩
    subst hw
    go_wp2_with fail
    exact bodyPost_ret (v := .tuple #[.agg #[.int .i64 0, .int .i64 0], .int .i64 2]) (by simp [results, Tryz.results5, go_sem, p0, p1]) rfl ⟨rfl, HK0.out⟩
  cases q2
  rotate_left
  · obtain rfl : be = true := by rw [HB]; rfl
    rw [if_pos rfl]
    clear HB hq1 hq3
    go_enter Tryz.func5, Tryz.ntmps5
    go_wp2_with fail
    with_reducible refine (O1.out _).mono ?_
    rintro e w1 ⟨rfl, hw⟩
    subst hw
    go_wp2_with fail
    with_reducible refine (O2.out _).mono ?_
    rintro e w1 ⟨rfl, hw⟩
    subst hw
    go_wp2_with fail
    exact bodyPost_ret (v := .tuple #[.agg #[.int .i64 0, .int .i64 0], .int .i64 2]) (by simp [results, Tryz.results5, go_sem, p0, p1]) rfl ⟨rfl, HK0.out⟩
  cases q3
  rotate_left
  · obtain rfl : be = true := by rw [HB]; rfl
    rw [if_pos rfl]
    clear HB hq1 hq3
    go_enter Tryz.func5, Tryz.ntmps5
    go_wp2_with fail
    with_reducible refine (O1.out _).mono ?_
    rintro e w1 ⟨rfl, hw⟩
    subst hw
    go_wp2_with fail
    with_reducible refine (O2.out _).mono ?_
    rintro e w1 ⟨rfl, hw⟩
    subst hw
    go_wp2_with fail
    with_reducible refine (O3.out _).mono ?_
    rintro e w1 ⟨rfl, hw⟩
    subst hw
    go_wp2_with fail
    exact bodyPost_ret (v := .tuple #[.agg #[.int .i64 0, .int .i64 0], .int .i64 2]) (by simp [results, Tryz.results5, go_sem, p0, p1]) rfl ⟨rfl, HK0.out⟩
  obtain rfl : be = false := by rw [HB]; rfl
  rw [if_neg (by decide)]
  have b1 := hq1 rfl
  have b3 := hq3 rfl
  obtain ⟨e1, e2, e3, e4, e5⟩ := pi_span (a := d) (b := d) (by omega) (Int.le_refl _) (by omega)
  have P1 := Lib.hid (fun w0 => pi_ok d d w0 (ck_one d (by omega) (by omega)))
  rw [e1] at P1
  have HU := Lib.hid (show 0 ≤ piU d ∧ piU d ≤ 4000000 from by omega)
  generalize piU d = U at *
  generalize piD d = D at *
  have hU := HU.out
  simp only [ieV, ivV] at P1
  have ON := Lib.hid (fun w0 => one_any d w0)
  simp only [ivV] at ON
  clear e1 e2 e3 e4 e5 HB hq1 hq3 HU
  go_enter Tryz.func5, Tryz.ntmps5
  go_wp2_with fail
  with_reducible refine (O1.out _).mono ?_
  rintro e w1 ⟨rfl, hw⟩
  subst hw
  go_wp2_with fail
  with_reducible refine (O2.out _).mono ?_
  rintro e w1 ⟨rfl, hw⟩
  subst hw
  go_wp2_with fail
  with_reducible refine (O3.out _).mono ?_
  rintro e w1 ⟨rfl, hw⟩
  subst hw
  go_wp2_with fail
  with_reducible refine (ON.out _).mono ?_
  rintro e w1 ⟨rfl, k1⟩
  go_wp2_with fail
  with_reducible refine (P1.out _).mono ?_
  rintro e w2 ⟨rfl, k2⟩
  have k02 := k1.tr k2
  have HK2 := Lib.hid (HK0.out.tr k02)
  have g2 := k02.heap (heap_alloc_new w (.cells #[.int .i64 0, .int .i64 0] 25)) id
  obtain ⟨g0, g1, z0, z1⟩ := two_cells g2
  have hs : w.heap.size < w2.heap.size := World.block_lt_of_cell? _ _ g0
  clear k1 k2 p0 p1 g2
  go_wp2_with fail
  have f0 : (((w2.setCell ⟨w.heap.size, 0, none⟩ (.int .i64 (U + s))).setCell ⟨w.heap.size, 1, none⟩ (.int .i64 l)).alloc (.cells #[.int .i64 D, .int .i64 U] 38)).cell? ⟨w.heap.size, 0, none⟩ = some (.int .i64 (U + s)) := by go_simp
  have f1 : (((w2.setCell ⟨w.heap.size, 0, none⟩ (.int .i64 (U + s))).setCell ⟨w.heap.size, 1, none⟩ (.int .i64 l)).alloc (.cells #[.int .i64 D, .int .i64 U] 38)).cell? ⟨w.heap.size, 1, none⟩ = some (.int .i64 l) := by go_simp
  have hk3 : Kp No w (((w2.setCell ⟨w.heap.size, 0, none⟩ (.int .i64 (U + s))).setCell ⟨w.heap.size, 1, none⟩ (.int .i64 l)).alloc (.cells #[.int .i64 D, .int .i64 U] 38)) := (kp_set2 HK2.out (Nat.le_refl _)).tr (Kp.alloc _ _ _)
  generalize (((w2.setCell ⟨w.heap.size, 0, none⟩ (.int .i64 (U + s))).setCell ⟨w.heap.size, 1, none⟩ (.int .i64 l)).alloc (.cells #[.int .i64 D, .int .i64 U] 38)) = w3 at f0 f1 hk3 ⊢
  exact bodyPost_ret (v := .tuple #[.agg #[.int .i64 (U + s), .int .i64 l], .int .i64 0]) (by simp [results, Tryz.results5, go_sem, f0, f1]) rfl ⟨rfl, hk3⟩
end Go.Proofs.YtamjhpdgclbfgaaGreat

namespace Go.Proofs.YtamjhpdgclbfgaaGreat
open Go.RowKit Go.Kq

def wgtE (a t d : Int) : Bool := outB a 0 100000000000000000 || outB t 1 10000 || outB d 1 30000
def wgtV (a t d : Int) : Int × Int × Int := if wgtE a t d then (0, 0, 2) else spanV 1000000000000 (a * (t * d)) [a * (t * d)]
set_option maxHeartbeats 4000000 in
theorem Weight_any (a t d : Int) (w : World) : Calls Tryz.prog 12 #[.int .i64 a, .int .i64 t, .int .i64 d] w fun e w' => e = .returned (ieV (wgtV a t d)) ∧ Kp No w w' := by
  have O1 := Lib.hid (fun w0 => outside_any a 0 100000000000000000 w0)
  have O2 := Lib.hid (fun w0 => outside_any t 1 10000 w0)
  have O3 := Lib.hid (fun w0 => outside_any d 1 30000 w0)
  have HV := Lib.hid (show wgtV a t d = if wgtE a t d then (0, 0, 2) else spanV 1000000000000 (a * (t * d)) [a * (t * d)] from rfl)
  have HB : wgtE a t d = (outB a 0 100000000000000000 || outB t 1 10000 || outB d 1 30000) := rfl
  have hq1 : outB a 0 100000000000000000 = false → 0 ≤ a ∧ a ≤ 100000000000000000 := outB_no
  have hq2 : outB t 1 10000 = false → 1 ≤ t ∧ t ≤ 10000 := outB_no
  have hq3 : outB d 1 30000 = false → 1 ≤ d ∧ d ≤ 30000 := outB_no
  generalize wgtE a t d = be at *
  generalize outB a 0 100000000000000000 = q1 at *
  generalize outB t 1 10000 = q2 at *
  generalize outB d 1 30000 = q3 at *
  have HK0 := Lib.hid (show Kp No w (w.alloc (.cells #[.int .i64 0, .int .i64 0] 38)) from Kp.alloc _ _ _)
  have p0 : (w.alloc (.cells #[.int .i64 0, .int .i64 0] 38)).cell? ⟨w.heap.size, 0, none⟩ = some (.int .i64 0) := by go_simp
  have p1 : (w.alloc (.cells #[.int .i64 0, .int .i64 0] 38)).cell? ⟨w.heap.size, 1, none⟩ = some (.int .i64 0) := by go_simp
  simp only [HV.out, ieV, ivV]
  clear HV
  cases q1
  rotate_left
  · obtain rfl : be = true := by rw [HB]; rfl
    rw [if_pos rfl]
    clear HB hq1 hq2 hq3
    go_enter Tryz.func12, Tryz.ntmps12
    go_wp2_with fail
    with_reducible refine (O1.out _).mono ?_
    rintro e w1 ⟨rfl, hw⟩
    subst hw
    go_wp2_with fail
    exact bodyPost_ret (v := .tuple #[.agg #[.int .i64 0, .int .i64 0], .int .i64 2]) (by simp [results, Tryz.results12, go_sem, p0, p1]) rfl ⟨rfl, HK0.out⟩
  cases q2
  rotate_left
  · obtain rfl : be = true := by rw [HB]; rfl
    rw [if_pos rfl]
    clear HB hq1 hq2 hq3
    go_enter Tryz.func12, Tryz.ntmps12
    go_wp2_with fail
    with_reducible refine (O1.out _).mono ?_
    rintro e w1 ⟨rfl, hw⟩
    subst hw
    go_wp2_with fail
    with_reducible refine (O2.out _).mono ?_
    rintro e w1 ⟨rfl, hw⟩
    subst hw
    go_wp2_with fail
    exact bodyPost_ret (v := .tuple #[.agg #[.int .i64 0, .int .i64 0], .int .i64 2]) (by simp [results, Tryz.results12, go_sem, p0, p1]) rfl ⟨rfl, HK0.out⟩
  cases q3
  rotate_left
  · obtain rfl : be = true := by rw [HB]; rfl
    rw [if_pos rfl]
    clear HB hq1 hq2 hq3
    go_enter Tryz.func12, Tryz.ntmps12
    go_wp2_with fail
    with_reducible refine (O1.out _).mono ?_
    rintro e w1 ⟨rfl, hw⟩
    subst hw
    go_wp2_with fail
    with_reducible refine (O2.out _).mono ?_
    rintro e w1 ⟨rfl, hw⟩
    subst hw
    go_wp2_with fail
    with_reducible refine (O3.out _).mono ?_
    rintro e w1 ⟨rfl, hw⟩
    subst hw
    go_wp2_with fail
    exact bodyPost_ret (v := .tuple #[.agg #[.int .i64 0, .int .i64 0], .int .i64 2]) (by simp [results, Tryz.results12, go_sem, p0, p1]) rfl ⟨rfl, HK0.out⟩
  obtain rfl : be = false := by rw [HB]; rfl
  rw [if_neg (by decide)]
  have b1 := hq1 rfl
  have b2 := hq2 rfl
  have b3 := hq3 rfl
  have ht : 1 ≤ t * d ∧ t * d ≤ 300000000 := by
    constructor
    · have := Int.mul_le_mul b2.1 b3.1 (by omega) (by omega)
      omega
    · have := Int.mul_le_mul b2.2 b3.2 (by omega) (by omega)
      omega
  have S1 := Lib.hid (fun w0 => scale_ok a a (t * d) 1000000000000 w0 (ck_one a (by omega) (by omega)) (by omega) (by decide) (by unfold fits M62; simp; omega))
  have ce : ((1000000000000 : Nat) : Int) = 1000000000000 := rfl
  rw [ce] at S1
  generalize spanV 1000000000000 (a * (t * d)) [a * (t * d)] = sv at *
  obtain ⟨v1, v2, v3⟩ := sv
  simp only [ieV, ivV] at S1
  have ON := Lib.hid (fun w0 => one_any a w0)
  simp only [ivV] at ON
  clear HB hq1 hq2 hq3 ce
  go_enter Tryz.func12, Tryz.ntmps12
  go_wp2_with fail
  with_reducible refine (O1.out _).mono ?_
  rintro e w1 ⟨rfl, hw⟩
  subst hw
  go_wp2_with fail
  with_reducible refine (O2.out _).mono ?_
  rintro e w1 ⟨rfl, hw⟩
  subst hw
  go_wp2_with fail
  with_reducible refine (O3.out _).mono ?_
  rintro e w1 ⟨rfl, hw⟩
  subst hw
  go_wp2_with fail
  with_reducible refine (ON.out _).mono ?_
  rintro e w1 ⟨rfl, k1⟩
  go_wp2_with fail
  with_reducible refine (S1.out _).mono ?_
  rintro e w2 ⟨rfl, k2⟩
  have k02 := k1.tr k2
  have HK2 := Lib.hid (HK0.out.tr k02)
  have g2 := k02.heap (heap_alloc_new w (.cells #[.int .i64 0, .int .i64 0] 38)) id
  obtain ⟨g0, g1, z0, z1⟩ := two_cells g2
  have hs : w.heap.size < w2.heap.size := World.block_lt_of_cell? _ _ g0
  clear k1 k2 p0 p1 g2
  go_wp2_with fail
  have f0 : ((w2.setCell ⟨w.heap.size, 0, none⟩ (.int .i64 v1)).setCell ⟨w.heap.size, 1, none⟩ (.int .i64 v2)).cell? ⟨w.heap.size, 0, none⟩ = some (.int .i64 v1) := by go_simp
  have f1 : ((w2.setCell ⟨w.heap.size, 0, none⟩ (.int .i64 v1)).setCell ⟨w.heap.size, 1, none⟩ (.int .i64 v2)).cell? ⟨w.heap.size, 1, none⟩ = some (.int .i64 v2) := by go_simp
  have hk3 : Kp No w ((w2.setCell ⟨w.heap.size, 0, none⟩ (.int .i64 v1)).setCell ⟨w.heap.size, 1, none⟩ (.int .i64 v2)) := kp_set2 HK2.out (Nat.le_refl _)
  generalize ((w2.setCell ⟨w.heap.size, 0, none⟩ (.int .i64 v1)).setCell ⟨w.heap.size, 1, none⟩ (.int .i64 v2)) = w3 at f0 f1 hk3 ⊢
  exact bodyPost_ret (v := .tuple #[.agg #[.int .i64 v1, .int .i64 v2], .int .i64 v3]) (by simp [results, Tryz.results12, go_sem, f0, f1]) rfl ⟨rfl, hk3⟩
end Go.Proofs.YtamjhpdgclbfgaaGreat

namespace Go.Proofs.YtamjhpdgclbfgaaGreat
open Go.RowKit Go.Kq

theorem from_any (n a b : Int) (w : World) : Calls Tryz.prog 17 #[.int .i64 n, .int .i64 a, .int .i64 b] w fun e w' => e = .returned (.bool (!outB n a b)) ∧ w' = w := by
  unfold outB
  by_cases h1 : a ≤ n
  · by_cases h2 : n ≤ b
    · have e1 : decide (a ≤ n) = true := decide_eq_true h1
      have HE := Lib.hid (show (!(decide (n < a) || decide (b < n))) = true by rw [decide_eq_false (by omega), decide_eq_false (by omega)]; rfl)
      go_enter Tryz.func17, Tryz.ntmps17
      go_wp2
      go_ret
      first | exact ⟨rfl, rfl⟩ | exact ⟨by rw [HE.out]; rfl, rfl⟩
    · have e1 : decide (a ≤ n) = true := decide_eq_true h1
      have HE := Lib.hid (show (!(decide (n < a) || decide (b < n))) = false by rw [decide_eq_false (by omega), decide_eq_true (by omega)]; rfl)
      go_enter Tryz.func17, Tryz.ntmps17
      go_wp2
      go_ret
      first | exact ⟨rfl, rfl⟩ | exact ⟨by rw [HE.out]; rfl, rfl⟩
  · have e1 : decide (a ≤ n) = false := decide_eq_false h1
    have HE := Lib.hid (show (!(decide (n < a) || decide (b < n))) = false by rw [decide_eq_true (by omega)]; rfl)
    go_enter Tryz.func17, Tryz.ntmps17
    go_wp2
    go_ret
    first | exact ⟨rfl, rfl⟩ | exact ⟨by rw [HE.out]; rfl, rfl⟩
set_option maxHeartbeats 2000000 in
theorem valid_any (c : Ct) (w : World) : Calls Tryz.prog 64 #[c.val] w fun e w' => e = .returned (.bool (!badC c)) ∧ Kp No w w' := by
  have H1 := Lib.hid (fun w0 => from_any c.w 1 20000000 w0)
  have H2 := Lib.hid (fun w0 => from_any c.h 1 20000000 w0)
  unfold badC
  generalize outB c.w 1 20000000 = q1 at *
  generalize outB c.h 1 20000000 = q2 at *
  unfold Ct.val
  have hk0 : Kp No w (w.alloc (.cells #[.int .i64 c.w, .int .i64 c.h] 25)) := Kp.alloc _ _ _
  go_enter Tryz.func64, Tryz.ntmps64
  cases q1
  · go_wp2_with fail
    with_reducible refine (H1.out _).mono ?_
    rintro e w1 ⟨rfl, hw⟩
    subst hw
    go_wp2_with fail
    with_reducible refine (H2.out _).mono ?_
    rintro e w1 ⟨rfl, hw⟩
    subst hw
    go_wp2_with fail
    go_ret
    exact ⟨rfl, hk0⟩
  · go_wp2_with fail
    with_reducible refine (H1.out _).mono ?_
    rintro e w1 ⟨rfl, hw⟩
    subst hw
    go_wp2_with fail
    go_ret
    exact ⟨rfl, hk0⟩
def cutE (l : List Ct) (m : Int) : Int := if m < (l.length : Int) then 3 else if l.any badC then 2 else 0
set_option maxHeartbeats 2000000 in
theorem cuts_any (A : Option Addr) (n ca : Nat) (l : List Ct) (m : Int) (w : World) (hx : RdC w A n l) (hn : n ≤ 100000000) :
    Calls Tryz.prog 34 #[.slice A n ca, .int .i64 m] w fun e w' => e = .returned (.int .i64 (cutE l m)) ∧ Kp No w w' := by
  have HX := Lib.hid hx
  have HL := Lib.hid hx.1
  have HV := Lib.hid (show cutE l m = if m < (n : Int) then 3 else if l.any badC then 2 else 0 by unfold cutE; rw [hx.1])
  clear hx
  go_enter Tryz.func34, Tryz.ntmps34
  by_cases hm : m < (n : Int)
  · rw [if_pos hm] at HV
    rw [HV.out]
    go_wp2_with fail
    go_ret
    exact ⟨rfl, Kp.refl _ _⟩
  rw [if_neg hm] at HV
  go_wp2_with fail
  go_loopw [5] (fun i wr => ∃ k : Nat, k ≤ n ∧ i = .int .i64 k ∧ (l.take k).any badC = false ∧ Kp No w wr) (fun i _ => n - (intOf i).toNat)
  case atStart => exact ⟨0, by omega, rfl, by simp, Kp.refl _ _⟩
  case round =>
    obtain ⟨k, hk, rfl, hno, hkp⟩ := hrel
    by_cases hlt : k < n
    · obtain ⟨v, hv⟩ : ∃ v, l[k]? = some v := ⟨_, List.getElem?_eq_getElem (by rw [HL.out]; exact hlt)⟩
      obtain ⟨b, o, rfl, hb, hc⟩ := (HX.out.no hkp).2 k v hv
      have c0 := hc 0 _ rfl
      have c1 := hc 1 _ rfl
      simp only [Nat.add_zero] at c0
      have Ht := Lib.hid (any_take_succ badC l k v hv)
      have Hno := Lib.hid hno
      have HK := Lib.hid hkp
      have Hv := Lib.hid hv
      have HC := Lib.hid (fun w0 => valid_any v w0)
      simp only [Ct.val] at HC
      clear hno hv hc hkp
      cases hbad : badC v
      · rw [hbad] at HC Ht
        clear hbad
        go_wp2_with fail
        with_reducible refine (HC.out _).mono ?_
        rintro e w1 ⟨rfl, k1⟩
        go_wp2_with fail
        go_roundw
        case rel => exact ⟨k + 1, by omega, by go_num, by rw [Ht.out, Hno.out]; rfl, HK.out.tr k1⟩
        case measure => simp [intOf]; omega
      · have HA := Lib.hid (show l.any badC = true from List.any_eq_true.2 ⟨v, List.mem_of_getElem? Hv.out, hbad⟩)
        rw [hbad] at HC
        rw [HA.out] at HV
        clear hbad
        go_wp2_with fail
        with_reducible refine (HC.out _).mono ?_
        rintro e w1 ⟨rfl, k1⟩
        go_wp2_with fail
        go_ret
        exact ⟨by rw [HV.out]; rfl, HK.out.tr k1⟩
    · obtain rfl : k = n := by omega
      have HA := Lib.hid (show l.any badC = false by rw [List.take_of_length_le (by rw [HL.out]; omega)] at hno; exact hno)
      rw [HA.out] at HV
      have HK := Lib.hid hkp
      clear hno hkp
      go_wp2_with fail
      go_ret
      exact ⟨by rw [HV.out]; rfl, HK.out⟩
end Go.Proofs.YtamjhpdgclbfgaaGreat
