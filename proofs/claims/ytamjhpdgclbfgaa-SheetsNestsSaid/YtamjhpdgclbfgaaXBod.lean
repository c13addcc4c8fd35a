/- Chapter 09: Body, Weight, large. -/
import Derived.Test.YtamjhpdgclbfgaaXLibBitM
import Derived.Test.YtamjhpdgclbfgaaXSpy
namespace Go.Proofs.Ytamjhpdgclbfgaa
open Go.RowKit Go.Kq

theorem ck_one (n : Int) (h : -4611686018427387904 ≤ n) (h2 : n ≤ 4611686018427387904) : ckE [(n, n)] = 0 := by
  have f : fits n = true := by unfold fits M62; simp; omega
  unfold ckE
  rw [if_pos (by intro x hx; simp at hx; subst hx; exact ⟨f, f⟩), if_pos (by intro x hx; simp at hx; subst hx; exact Int.le_refl _)]
theorem outB_no {n a b : Int} (h : outB n a b = false) : a ≤ n ∧ n ≤ b := by
  unfold outB at h
  simp at h
  omega
/-- pi times a number from 0 on, rounded up, or down. -/
def piU (n : Int) : Int := rnd true (n * 3141592653589793239) 1000000000000000000
def piD (n : Int) : Int := rnd false (n * 3141592653589793238) 1000000000000000000
theorem pi_span {a b : Int} (h0 : 0 ≤ a) (h1 : a ≤ b) (h2 : b ≤ 1000000000000000000) : spanV 1000000000000000000 (a * 3141592653589793238) [a * 3141592653589793239, b * 3141592653589793238, b * 3141592653589793239] = (piD a, piU b, 0) ∧ 0 ≤ piD a ∧ piD a ≤ piU b ∧ 3 * a ≤ piD a ∧ piU b ≤ 4 * b := by
  have e1 : minL (a * 3141592653589793238) [a * 3141592653589793239, b * 3141592653589793238, b * 3141592653589793239] = a * 3141592653589793238 := by
    simp only [minL]
    omega
  have e2 : maxL (a * 3141592653589793238) [a * 3141592653589793239, b * 3141592653589793238, b * 3141592653589793239] = b * 3141592653589793239 := by
    simp only [maxL]
    omega
  have d : piD a = (a * 3141592653589793238) / 1000000000000000000 := rfl
  have u : piU b = -((-(b * 3141592653589793239)) / 1000000000000000000) := rfl
  have hd : 0 ≤ piD a ∧ piD a ≤ piU b ∧ 3 * a ≤ piD a ∧ piU b ≤ 4 * b := by rw [d, u]; omega
  refine ⟨?_, hd⟩
  unfold spanV
  rw [e1, e2]
  have f1 : fits (rnd false (a * 3141592653589793238) 1000000000000000000) = true := by
    change fits (piD a) = true
    unfold fits M62
    simp
    omega
  have f2 : fits (rnd true (b * 3141592653589793239) 1000000000000000000) = true := by
    change fits (piU b) = true
    unfold fits M62
    simp
    omega
  rw [f1, f2]
  rfl
def bodyE (d l s : Int) : Bool := outB d 1000 1000000 || outB l 1000 12000000 || outB s 0 20000
def bodyV (d l s : Int) : Ct × Int := if bodyE d l s then (⟨0, 0⟩, 2) else (⟨piU d + s, l⟩, 0)
set_option maxHeartbeats 4000000 in
theorem Body_any (d l s : Int) (w : World) : Calls Try.prog 14 #[.int .i64 d, .int .i64 l, .int .i64 s] w fun e w' => e = .returned (.tuple #[(bodyV d l s).1.val, .int .i64 (bodyV d l s).2]) ∧ Kp No w w' := by
  have O1 := Lib.hid (fun w0 => outside_any d 1000 1000000 w0)
  have O2 := Lib.hid (fun w0 => outside_any l 1000 12000000 w0)
  have O3 := Lib.hid (fun w0 => outside_any s 0 20000 w0)
  have HV := Lib.hid (show bodyV d l s = if bodyE d l s then (⟨0, 0⟩, 2) else (⟨piU d + s, l⟩, 0) from rfl)
  have HB : bodyE d l s = (outB d 1000 1000000 || outB l 1000 12000000 || outB s 0 20000) := rfl
  have hq1 : outB d 1000 1000000 = false → 1000 ≤ d ∧ d ≤ 1000000 := outB_no
  have hq3 : outB s 0 20000 = false → 0 ≤ s ∧ s ≤ 20000 := outB_no
  generalize bodyE d l s = be at *
  generalize outB d 1000 1000000 = q1 at *
  generalize outB l 1000 12000000 = q2 at *
  generalize outB s 0 20000 = q3 at *
  have HK0 := Lib.hid (show Kp No w (w.alloc (.cells #[.int .i64 0, .int .i64 0] 35)) from Kp.alloc _ _ _)
  have p0 : (w.alloc (.cells #[.int .i64 0, .int .i64 0] 35)).cell? ⟨w.heap.size, 0, none⟩ = some (.int .i64 0) := by go_simp
  have p1 : (w.alloc (.cells #[.int .i64 0, .int .i64 0] 35)).cell? ⟨w.heap.size, 1, none⟩ = some (.int .i64 0) := by go_simp
  rw [HV.out]
  clear HV
  cases q1
  rotate_left
  · obtain rfl : be = true := by rw [HB]; rfl
    rw [if_pos rfl]
    clear HB hq1 hq3
    go_enter Try.func14, Try.ntmps14
    go_wp2_with fail
    with_reducible refine (O1.out _).mono ?_
    rintro e w1 ⟨rfl, hw⟩
    subst hw
    go_wp2_with fail
    exact bodyPost_ret (v := .tuple #[.agg #[.int .i64 0, .int .i64 0], .int .i64 2]) (by simp [results, Try.results14, go_sem, p0, p1]) rfl ⟨rfl, HK0.out⟩
  cases q2
  rotate_left
  · obtain rfl : be = true := by rw [HB]; rfl
    rw [if_pos rfl]
    clear HB hq1 hq3
    go_enter Try.func14, Try.ntmps14
    go_wp2_with fail
    with_reducible refine (O1.out _).mono ?_
    rintro e w1 ⟨rfl, hw⟩
    subst hw
    go_wp2_with fail
    with_reducible refine (O2.out _).mono ?_
    rintro e w1 ⟨rfl, hw⟩
    subst hw
    go_wp2_with fail
    exact bodyPost_ret (v := .tuple #[.agg #[.int .i64 0, .int .i64 0], .int .i64 2]) (by simp [results, Try.results14, go_sem, p0, p1]) rfl ⟨rfl, HK0.out⟩
  cases q3
  rotate_left
  · obtain rfl : be = true := by rw [HB]; rfl
    rw [if_pos rfl]
    clear HB hq1 hq3
    go_enter Try.func14, Try.ntmps14
    go_wp2_with fail
    with_reducible refine (O1.out _).mono ?_
    rintro e w1 ⟨rfl, hw⟩
    subst hw
    go_wp2_with fail
    with_reducible refine (O2.out _).mono ?_
    rintro e w1 ⟨rfl, hw⟩
    subst hw
    go_wp2_with fail
    with_reducible refine (O3.out _).mono ?_
    rintro e w1 ⟨rfl, hw⟩
    subst hw
    go_wp2_with fail
    exact bodyPost_ret (v := .tuple #[.agg #[.int .i64 0, .int .i64 0], .int .i64 2]) (by simp [results, Try.results14, go_sem, p0, p1]) rfl ⟨rfl, HK0.out⟩
  obtain rfl : be = false := by rw [HB]; rfl
  rw [if_neg (by decide)]
  have b1 := hq1 rfl
  have b3 := hq3 rfl
  obtain ⟨e1, e2, e3, e4, e5⟩ := pi_span (a := d) (b := d) (by omega) (Int.le_refl _) (by omega)
  have P1 := Lib.hid (fun w0 => pi_ok d d w0 (ck_one d (by omega) (by omega)))
  rw [e1] at P1
  have HU := Lib.hid (show 0 ≤ piU d ∧ piU d ≤ 4000000 from by omega)
  generalize piU d = U at *
  generalize piD d = D at *
  have hU := HU.out
  simp only [ieV, ivV] at P1
  have ON := Lib.hid (fun w0 => one_any d w0)
  simp only [ivV] at ON
  clear e1 e2 e3 e4 e5 HB hq1 hq3 HU
  go_enter Try.func14, Try.ntmps14
  go_wp2_with fail
  with_reducible refine (O1.out _).mono ?_
  rintro e w1 ⟨rfl, hw⟩
  subst hw
  go_wp2_with fail
  with_reducible refine (O2.out _).mono ?_
  rintro e w1 ⟨rfl, hw⟩
  subst hw
  go_wp2_with fail
  with_reducible refine (O3.out _).mono ?_
  rintro e w1 ⟨rfl, hw⟩
  subst hw
  go_wp2_with fail
  with_reducible refine (ON.out _).mono ?_
  rintro e w1 ⟨rfl, k1⟩
  go_wp2_with fail
  with_reducible refine (P1.out _).mono ?_
  rintro e w2 ⟨rfl, k2⟩
  have k02 := k1.tr k2
  have HK2 := Lib.hid (HK0.out.tr k02)
  have g2 := k02.heap (heap_alloc_new w (.cells #[.int .i64 0, .int .i64 0] 35)) id
  obtain ⟨g0, g1, z0, z1⟩ := two_cells g2
  have hs : w.heap.size < w2.heap.size := World.block_lt_of_cell? _ _ g0
  clear k1 k2 p0 p1 g2
  go_wp2_with fail
  have f0 : (((w2.setCell ⟨w.heap.size, 0, none⟩ (.int .i64 (U + s))).setCell ⟨w.heap.size, 1, none⟩ (.int .i64 l)).alloc (.cells #[.int .i64 D, .int .i64 U] 40)).cell? ⟨w.heap.size, 0, none⟩ = some (.int .i64 (U + s)) := by go_simp
  have f1 : (((w2.setCell ⟨w.heap.size, 0, none⟩ (.int .i64 (U + s))).setCell ⟨w.heap.size, 1, none⟩ (.int .i64 l)).alloc (.cells #[.int .i64 D, .int .i64 U] 40)).cell? ⟨w.heap.size, 1, none⟩ = some (.int .i64 l) := by go_simp
  have hk3 : Kp No w (((w2.setCell ⟨w.heap.size, 0, none⟩ (.int .i64 (U + s))).setCell ⟨w.heap.size, 1, none⟩ (.int .i64 l)).alloc (.cells #[.int .i64 D, .int .i64 U] 40)) := (kp_set2 HK2.out (Nat.le_refl _)).tr (Kp.alloc _ _ _)
  generalize (((w2.setCell ⟨w.heap.size, 0, none⟩ (.int .i64 (U + s))).setCell ⟨w.heap.size, 1, none⟩ (.int .i64 l)).alloc (.cells #[.int .i64 D, .int .i64 U] 40)) = w3 at f0 f1 hk3 ⊢
  exact bodyPost_ret (v := .tuple #[.agg #[.int .i64 (U + s), .int .i64 l], .int .i64 0]) (by simp [results, Try.results14, go_sem, f0, f1]) rfl ⟨rfl, hk3⟩
end Go.Proofs.Ytamjhpdgclbfgaa
