/- Chapter 13: what a toe takes, step by step: plain. No program in sight. -/
import Derived.Test.YtlieijnhaolnhaaLibTake
namespace Go.Kq

theorem fits_of {q : Int} (h1 : -4611686018427387904 ≤ q) (h2 : q ≤ 4611686018427387904) : fits q = true := by
  unfold fits M62
  simp
  omega
theorem spanV_mk {d x lo hi : Int} {l : List Int} (h1 : rnd false (minL x l) d = lo) (h2 : rnd true (maxL x l) d = hi) (f1 : fits lo = true) (f2 : fits hi = true) : spanV d x l = (lo, hi, 0) := by
  unfold spanV
  rw [h1, h2, f1, f2]
  rfl
/-- The pressure's interval. -/
def plo (p : Int) : Int := rnd false (p * 5000000000000) 3
def phi (p : Int) : Int := rnd true (p * 5000000000000) 3
theorem plo_bd {p : Int} (h0 : 0 ≤ p) (h : p ≤ 5000) : 0 ≤ plo p ∧ plo p ≤ phi p ∧ phi p ≤ 10000000000000000 := by
  unfold plo phi
  have h1 := rnd_down (p * 5000000000000) (d := 3) (by omega)
  have h2 := rnd_up (p * 5000000000000) (d := 3) (by omega)
  omega
theorem span_p {p : Int} (h0 : 0 ≤ p) (h : p ≤ 5000) : spanV 3 (p * 5000000000000) [p * 5000000000000] = (plo p, phi p, 0) := by
  have hb := plo_bd h0 h
  refine spanV_mk ?_ ?_ (fits_of (by omega) (by omega)) (fits_of (by omega) (by omega))
  · simp [minL, plo]
  · simp [maxL, phi]
theorem vlo_eq (p : Int) : vlo p = ((isq (plo p).toNat : Nat) : Int) := rfl
theorem vhi_eq (p : Int) : vhi p = ((csq (phi p).toNat : Nat) : Int) := rfl
theorem span_m {b p : Int} (hb : 0 ≤ b) (hb2 : b ≤ 100000) (hp : 0 ≤ p) (hp2 : p ≤ 5000) :
    spanV 1 (dlo b * vlo p) [dlo b * vhi p, dhi b * vlo p, dhi b * vhi p] = (dlo b * vlo p, dhi b * vhi p, 0) := by
  have d1 := dlo_nn hb
  have d2 := dlo_dhi hb
  have v1 := vlo_nn p
  have v2 := (vlo_vhi hp).1
  have m := prod_le hb hb2 hp hp2
  have a := Int.mul_le_mul_of_nonneg_left v2 d1
  have c := Int.mul_le_mul_of_nonneg_right d2 v1
  have e := Int.mul_le_mul_of_nonneg_left v2 (show 0 ≤ dhi b by omega)
  have f := Int.mul_le_mul_of_nonneg_right d2 (show 0 ≤ vhi p by omega)
  have n := mul_nn d1 v1
  generalize dlo b * vlo p = x at *
  generalize dlo b * vhi p = y at *
  generalize dhi b * vlo p = z at *
  generalize dhi b * vhi p = u at *
  refine spanV_mk ?_ ?_ (fits_of (by omega) (by omega)) (fits_of (by omega) (by omega))
  · rw [rnd_one]
    simp only [minL]
    (repeat' split) <;> omega
  · rw [rnd_one]
    simp only [maxL]
    (repeat' split) <;> omega
theorem span_t {b f p : Int} (hb : 0 ≤ b) (hb2 : b ≤ 100000) (hf : 0 ≤ f) (hf2 : f ≤ 1000) (hp : 0 ≤ p) (hp2 : p ≤ 5000) :
    spanV 1000000000000 (dlo b * vlo p * f) [dhi b * vhi p * f] = (tlo b f p, thi b f p, 0) := by
  have t1 := tlo_nn (p := p) hb hf
  have t2 := tlo_thi hb hf hp
  have t3 := thi_le hb hb2 hf hf2 hp hp2
  have h := Int.mul_le_mul_of_nonneg_right (mul_mono (dlo_dhi hb) (vlo_vhi hp).1 (dlo_nn hb) (vlo_nn p)) hf
  refine spanV_mk ?_ ?_ (fits_of (by omega) (by omega)) (fits_of (by omega) (by omega))
  · simp only [minL]
    unfold tlo
    split
    · congr 1; omega
    · rfl
  · simp only [maxL]
    unfold thi
    split
    · rfl
    · congr 1; omega
theorem prod_bd {b p : Int} (hb : 0 ≤ b) (hb2 : b ≤ 100000) (hp : 0 ≤ p) (hp2 : p ≤ 5000) : 0 ≤ dlo b * vlo p ∧ dlo b * vlo p ≤ dhi b * vhi p ∧ dhi b * vhi p ≤ 4611686018427387904 := by
  have m := prod_le hb hb2 hp hp2
  exact ⟨mul_nn (dlo_nn hb) (vlo_nn p), mul_mono (dlo_dhi hb) (vlo_vhi hp).1 (dlo_nn hb) (vlo_nn p), by omega⟩
end Go.Kq
