/- What a toe takes: plain. No program in sight. · Fractions and whole numbers: floor and ceil are the roundings. No program in sight. -/
import Derived.Test.YtamjhpdgclbfgaaXPlBM
import Derived.Test.YtamjhpdgclbfgaaXNtjM
namespace Go.Kq

/-- The area of a disc, of n across, rounded. -/
def dlo (n : Int) : Int := rnd false (n * n * 3141592653589793238) 4000000000000000000
def dhi (n : Int) : Int := rnd true (n * n * 3141592653589793239) 4000000000000000000
def vlo (p : Int) : Int := isq (rnd false (p * 5000000000000) 3).toNat
def vhi (p : Int) : Int := csq (rnd true (p * 5000000000000) 3).toNat
def tlo (b f p : Int) : Int := rnd false (dlo b * vlo p * f) 1000000000000
def thi (b f p : Int) : Int := rnd true (dhi b * vhi p * f) 1000000000000
theorem mul_mono {a b c d : Int} (h1 : a ≤ c) (h2 : b ≤ d) (ha : 0 ≤ a) (hb : 0 ≤ b) : a * b ≤ c * d :=
  Int.le_trans (Int.mul_le_mul_of_nonneg_right h1 hb) (Int.mul_le_mul_of_nonneg_left h2 (by omega))
theorem mul4 (a b c d : Int) : a * b * (c * d) = a * c * (b * d) := by
  rw [Int.mul_assoc, Int.mul_assoc, Int.mul_left_comm b c d]
theorem mul_nn {a b : Int} (ha : 0 ≤ a) (hb : 0 ≤ b) : 0 ≤ a * b := Int.mul_nonneg ha hb
theorem sq_nn {a : Int} (ha : 0 ≤ a) : 0 ≤ a * a := mul_nn ha ha
theorem dlo_mono {a b : Int} (ha : 0 ≤ a) (h : a ≤ b) : dlo a ≤ dlo b := rnd_mono _ (by omega) (Int.mul_le_mul_of_nonneg_right (mul_mono h h ha ha) (by omega))
theorem dhi_mono {a b : Int} (ha : 0 ≤ a) (h : a ≤ b) : dhi a ≤ dhi b := rnd_mono _ (by omega) (Int.mul_le_mul_of_nonneg_right (mul_mono h h ha ha) (by omega))
theorem dlo_nn {a : Int} (ha : 0 ≤ a) : 0 ≤ dlo a := rnd_nn _ (by omega) (mul_nn (sq_nn ha) (by omega))
theorem dlo_dhi {a : Int} (ha : 0 ≤ a) : dlo a ≤ dhi a := rnd_both (by omega) (Int.mul_le_mul_of_nonneg_left (by omega) (sq_nn ha))
theorem vlo_nn (p : Int) : 0 ≤ vlo p := by unfold vlo; omega
theorem vlo_mono {p q : Int} (h : p ≤ q) : vlo p ≤ vlo q := by
  unfold vlo
  have := rnd_mono false (d := 3) (by omega) (show p * 5000000000000 ≤ q * 5000000000000 by omega)
  have := isq_mono (a := (rnd false (p * 5000000000000) 3).toNat) (b := (rnd false (q * 5000000000000) 3).toNat) (by omega)
  omega
theorem vhi_mono {p q : Int} (h : p ≤ q) : vhi p ≤ vhi q := by
  unfold vhi
  have := rnd_mono true (d := 3) (by omega) (show p * 5000000000000 ≤ q * 5000000000000 by omega)
  have := csq_mono (a := (rnd true (p * 5000000000000) 3).toNat) (b := (rnd true (q * 5000000000000) 3).toNat) (by omega)
  omega
theorem vlo_vhi {p : Int} (_h : 0 ≤ p) : vlo p ≤ vhi p ∧ vhi p ≤ vlo p + 1 := by
  unfold vlo vhi
  have h1 := rnd_down (p * 5000000000000) (d := 3) (by omega)
  have h2 := rnd_up (p * 5000000000000) (d := 3) (by omega)
  have a := isq_mono (a := (rnd false (p * 5000000000000) 3).toNat) (b := (rnd true (p * 5000000000000) 3).toNat) (by omega)
  have b := (csq_le (rnd true (p * 5000000000000) 3).toNat).1
  have c := csq_next (n := (rnd false (p * 5000000000000) 3).toNat) (m := (rnd true (p * 5000000000000) 3).toNat) (by omega)
  omega
theorem vhi_le {p : Int} (h0 : 0 ≤ p) (h : p ≤ 5000) : vhi p ≤ 91287093 := by
  unfold vhi
  have h2 := rnd_up (p * 5000000000000) (d := 3) (by omega)
  have := csq_min (n := (rnd true (p * 5000000000000) 3).toNat) (r := 91287093) (by omega)
  omega
theorem dhi_le {b : Int} (h0 : 0 ≤ b) (h : b ≤ 100000) : dhi b ≤ 7853981634 := by
  refine Int.le_trans (dhi_mono h0 h) ?_
  unfold dhi rnd
  decide
theorem dhi_dlo {b : Int} (h0 : 0 ≤ b) (h : b ≤ 100000) : dhi b ≤ dlo b + 2 := by
  unfold dlo dhi
  have h1 := rnd_down (b * b * 3141592653589793238) (d := 4000000000000000000) (by omega)
  have h2 := rnd_up (b * b * 3141592653589793239) (d := 4000000000000000000) (by omega)
  have h3 := mul_mono h h h0 h0
  omega
theorem tlo_mono {b f p c g q : Int} (hb : 0 ≤ b) (hf : 0 ≤ f) (h1 : b ≤ c) (h2 : f ≤ g) (h3 : p ≤ q) : tlo b f p ≤ tlo c g q :=
  rnd_mono _ (by omega) (mul_mono (mul_mono (dlo_mono hb h1) (vlo_mono h3) (dlo_nn hb) (vlo_nn p)) h2 (mul_nn (dlo_nn hb) (vlo_nn p)) hf)
theorem vhi_nn (p : Int) : 0 ≤ vhi p := by unfold vhi; omega
theorem dhi_nn {b : Int} (hb : 0 ≤ b) : 0 ≤ dhi b := rnd_nn _ (by omega) (mul_nn (sq_nn hb) (by omega))
theorem thi_mono {b f p c g q : Int} (hb : 0 ≤ b) (hf : 0 ≤ f) (h1 : b ≤ c) (h2 : f ≤ g) (h3 : p ≤ q) : thi b f p ≤ thi c g q :=
  rnd_mono _ (by omega) (mul_mono (mul_mono (dhi_mono hb h1) (vhi_mono h3) (dhi_nn hb) (vhi_nn p)) h2 (mul_nn (dhi_nn hb) (vhi_nn p)) hf)
theorem tlo_nn {b f p : Int} (hb : 0 ≤ b) (hf : 0 ≤ f) : 0 ≤ tlo b f p := rnd_nn _ (by omega) (mul_nn (mul_nn (dlo_nn hb) (vlo_nn p)) hf)
theorem tlo_thi {b f p : Int} (hb : 0 ≤ b) (hf : 0 ≤ f) (hp : 0 ≤ p) : tlo b f p ≤ thi b f p :=
  rnd_both (by omega) (Int.mul_le_mul_of_nonneg_right (mul_mono (dlo_dhi hb) (vlo_vhi hp).1 (dlo_nn hb) (vlo_nn p)) hf)
theorem prod_le {b p : Int} (hb : 0 ≤ b) (hb2 : b ≤ 100000) (hp : 0 ≤ p) (hp2 : p ≤ 5000) : dhi b * vhi p ≤ 716967166660000000 + 2000000000000 := by
  have := mul_mono (dhi_le hb hb2) (vhi_le hp hp2) (dhi_nn hb) (vhi_nn p)
  omega
theorem thi_le {b f p : Int} (hb : 0 ≤ b) (hb2 : b ≤ 100000) (hf : 0 ≤ f) (hf2 : f ≤ 1000) (hp : 0 ≤ p) (hp2 : p ≤ 5000) : thi b f p ≤ 1000000000 := by
  have h1 := prod_le hb hb2 hp hp2
  have h2 := mul_mono h1 hf2 (mul_nn (dhi_nn hb) (vhi_nn p)) hf
  unfold thi
  have h3 := rnd_up (dhi b * vhi p * f) (d := 1000000000000) (by omega)
  omega
/-- An interval is at most 10 wide. -/
theorem wide {b f p : Int} (hb : 0 ≤ b) (hb2 : b ≤ 100000) (hf : 0 ≤ f) (hf2 : f ≤ 1000) (hp : 0 ≤ p) (hp2 : p ≤ 5000) : thi b f p - tlo b f p ≤ 10 := by
  have a1 := dhi_dlo hb hb2
  have a2 := dlo_dhi hb
  have a3 := dhi_le hb hb2
  have a4 := dlo_nn hb
  have v1 := vlo_vhi hp
  have v2 := vhi_le hp hp2
  have v3 := vlo_nn p
  -- the products part by a few thousand millions
  have e1 : dhi b * vhi p ≤ dhi b * (vlo p + 1) := Int.mul_le_mul_of_nonneg_left v1.2 (dhi_nn hb)
  have e2 : dhi b * (vlo p + 1) = dhi b * vlo p + dhi b := by rw [Int.mul_add]; omega
  have e3 : dhi b * vlo p ≤ (dlo b + 2) * vlo p := Int.mul_le_mul_of_nonneg_right a1 v3
  have e4 : (dlo b + 2) * vlo p = dlo b * vlo p + 2 * vlo p := Int.add_mul _ _ _
  have e5 : dhi b * vhi p - dlo b * vlo p ≤ 8036555820 := by omega
  have e6 : (dhi b * vhi p - dlo b * vlo p) * f ≤ 8036555820 * 1000 := by
    have h1 : (dhi b * vhi p - dlo b * vlo p) * f ≤ 8036555820 * f := Int.mul_le_mul_of_nonneg_right e5 hf
    omega
  rw [Int.sub_mul] at e6
  unfold thi tlo
  have h3 := rnd_up (dhi b * vhi p * f) (d := 1000000000000) (by omega)
  have h4 := rnd_down (dlo b * vlo p * f) (d := 1000000000000) (by omega)
  omega
/-! ### the squares -/
theorem sq_le_sq {a b : Int} (ha : 0 ≤ a) (h : a ≤ b) : a * a ≤ b * b := mul_mono h h ha ha
theorem vlo_sq {p : Int} (hp : 0 ≤ p) : 3 * (vlo p * vlo p) ≤ p * 5000000000000 := by
  have h1 := rnd_down (p * 5000000000000) (d := 3) (by omega)
  have h0 := rnd_nn false (d := 3) (by omega) (show 0 ≤ p * 5000000000000 by omega)
  have h2 := (isq_spec (rnd false (p * 5000000000000) 3).toNat).1
  have h3 : vlo p * vlo p ≤ rnd false (p * 5000000000000) 3 := by
    unfold vlo
    rw [← Int.natCast_mul]
    omega
  omega
theorem vhi_sq {p : Int} (hp : 0 ≤ p) : p * 5000000000000 ≤ 3 * (vhi p * vhi p) := by
  have h1 := rnd_up (p * 5000000000000) (d := 3) (by omega)
  have h0 := rnd_nn true (d := 3) (by omega) (show 0 ≤ p * 5000000000000 by omega)
  have h2 := (csq_le (rnd true (p * 5000000000000) 3).toNat).2.2
  have h3 : rnd true (p * 5000000000000) 3 ≤ vhi p * vhi p := by
    unfold vhi
    rw [← Int.natCast_mul]
    omega
  omega
theorem regroup (a v f k : Int) : (a * v * f) * (a * v * f) * (k * k) = (a * k) * (a * k) * (v * v) * (f * f) := by
  simp only [Int.mul_comm, Int.mul_left_comm]
theorem low_sq {b f p : Int} (hb : 0 ≤ b) (hf : 0 ≤ f) (hp : 0 ≤ p) :
    3 * (tlo b f p * tlo b f p) * (4000000000000000000000000000000 * 4000000000000000000000000000000) ≤ 5000000000000 * p * (f * f) * (b * b * (b * b)) * (3141592653589793238 * 3141592653589793238) := by
  have h1 := (rnd_down (dlo b * vlo p * f) (d := 1000000000000) (by omega)).1
  have h2 := (rnd_down (b * b * 3141592653589793238) (d := 4000000000000000000) (by omega)).1
  have n1 := tlo_nn (p := p) hb hf
  have nd := dlo_nn hb
  have nv := vlo_nn p
  have s1 : tlo b f p * 1000000000000 * (tlo b f p * 1000000000000) ≤ dlo b * vlo p * f * (dlo b * vlo p * f) := sq_le_sq (by omega) h1
  have s2 : dlo b * 4000000000000000000 * (dlo b * 4000000000000000000) ≤ b * b * 3141592653589793238 * (b * b * 3141592653589793238) := sq_le_sq (by omega) h2
  have s3 := vlo_sq hp
  have s4 : dlo b * vlo p * f * (dlo b * vlo p * f) * (4000000000000000000 * 4000000000000000000) = (dlo b * 4000000000000000000) * (dlo b * 4000000000000000000) * (vlo p * vlo p) * (f * f) := regroup _ _ _ _
  have s5 : (dlo b * 4000000000000000000) * (dlo b * 4000000000000000000) * (vlo p * vlo p) * (f * f) ≤ (b * b * 3141592653589793238 * (b * b * 3141592653589793238)) * (vlo p * vlo p) * (f * f) :=
    Int.mul_le_mul_of_nonneg_right (Int.mul_le_mul_of_nonneg_right s2 (sq_nn nv)) (sq_nn hf)
  have s6 : (b * b * 3141592653589793238 * (b * b * 3141592653589793238)) * (3 * (vlo p * vlo p)) * (f * f) ≤ (b * b * 3141592653589793238 * (b * b * 3141592653589793238)) * (p * 5000000000000) * (f * f) :=
    Int.mul_le_mul_of_nonneg_right (Int.mul_le_mul_of_nonneg_left s3 (sq_nn (mul_nn (sq_nn hb) (by omega)))) (sq_nn hf)
  have s7 : (b * b * 3141592653589793238 * (b * b * 3141592653589793238)) * (3 * (vlo p * vlo p)) * (f * f) = 3 * ((b * b * 3141592653589793238 * (b * b * 3141592653589793238)) * (vlo p * vlo p) * (f * f)) := by
    simp only [Int.mul_assoc, Int.mul_left_comm]
  have s8 : (b * b * 3141592653589793238 * (b * b * 3141592653589793238)) * (p * 5000000000000) * (f * f) = 5000000000000 * p * (f * f) * (b * b * (b * b)) * (3141592653589793238 * 3141592653589793238) := by
    simp only [Int.mul_assoc, Int.mul_comm, Int.mul_left_comm]
  have s9 : 3 * (tlo b f p * tlo b f p) * (4000000000000000000000000000000 * 4000000000000000000000000000000) = 3 * (tlo b f p * 1000000000000 * (tlo b f p * 1000000000000) * (4000000000000000000 * 4000000000000000000)) := by
    rw [mul4 (tlo b f p) 1000000000000 (tlo b f p) 1000000000000]
    omega
  rw [s9]
  have s10 : tlo b f p * 1000000000000 * (tlo b f p * 1000000000000) * (4000000000000000000 * 4000000000000000000) ≤ dlo b * vlo p * f * (dlo b * vlo p * f) * (4000000000000000000 * 4000000000000000000) := Int.mul_le_mul_of_nonneg_right s1 (by omega)
  omega
theorem high_sq {b f p : Int} (hb : 0 ≤ b) (hf : 0 ≤ f) (hp : 0 ≤ p) :
    5000000000000 * p * (f * f) * (b * b * (b * b)) * (3141592653589793239 * 3141592653589793239) ≤ 3 * (thi b f p * thi b f p) * (4000000000000000000000000000000 * 4000000000000000000000000000000) := by
  have h1 := (rnd_up (dhi b * vhi p * f) (d := 1000000000000) (by omega)).1
  have h2 := (rnd_up (b * b * 3141592653589793239) (d := 4000000000000000000) (by omega)).1
  have nd := dhi_nn hb
  have nv := vhi_nn p
  have s1 : dhi b * vhi p * f * (dhi b * vhi p * f) ≤ thi b f p * 1000000000000 * (thi b f p * 1000000000000) := sq_le_sq (mul_nn (mul_nn nd nv) hf) h1
  have s2 : b * b * 3141592653589793239 * (b * b * 3141592653589793239) ≤ dhi b * 4000000000000000000 * (dhi b * 4000000000000000000) := sq_le_sq (mul_nn (sq_nn hb) (by omega)) h2
  have s3 := vhi_sq hp
  have s4 : dhi b * vhi p * f * (dhi b * vhi p * f) * (4000000000000000000 * 4000000000000000000) = (dhi b * 4000000000000000000) * (dhi b * 4000000000000000000) * (vhi p * vhi p) * (f * f) := regroup _ _ _ _
  have s5 : (b * b * 3141592653589793239 * (b * b * 3141592653589793239)) * (vhi p * vhi p) * (f * f) ≤ (dhi b * 4000000000000000000) * (dhi b * 4000000000000000000) * (vhi p * vhi p) * (f * f) :=
    Int.mul_le_mul_of_nonneg_right (Int.mul_le_mul_of_nonneg_right s2 (sq_nn nv)) (sq_nn hf)
  have s6 : (b * b * 3141592653589793239 * (b * b * 3141592653589793239)) * (p * 5000000000000) * (f * f) ≤ (b * b * 3141592653589793239 * (b * b * 3141592653589793239)) * (3 * (vhi p * vhi p)) * (f * f) :=
    Int.mul_le_mul_of_nonneg_right (Int.mul_le_mul_of_nonneg_left s3 (sq_nn (mul_nn (sq_nn hb) (by omega)))) (sq_nn hf)
  have s7 : (b * b * 3141592653589793239 * (b * b * 3141592653589793239)) * (3 * (vhi p * vhi p)) * (f * f) = 3 * ((b * b * 3141592653589793239 * (b * b * 3141592653589793239)) * (vhi p * vhi p) * (f * f)) := by
    simp only [Int.mul_assoc, Int.mul_left_comm]
  have s8 : (b * b * 3141592653589793239 * (b * b * 3141592653589793239)) * (p * 5000000000000) * (f * f) = 5000000000000 * p * (f * f) * (b * b * (b * b)) * (3141592653589793239 * 3141592653589793239) := by
    simp only [Int.mul_assoc, Int.mul_comm, Int.mul_left_comm]
  have s9 : 3 * (thi b f p * thi b f p) * (4000000000000000000000000000000 * 4000000000000000000000000000000) = 3 * (thi b f p * 1000000000000 * (thi b f p * 1000000000000) * (4000000000000000000 * 4000000000000000000)) := by
    rw [mul4 (thi b f p) 1000000000000 (thi b f p) 1000000000000]
    omega
  rw [s9]
  have s10 : dhi b * vhi p * f * (dhi b * vhi p * f) * (4000000000000000000 * 4000000000000000000) ≤ thi b f p * 1000000000000 * (thi b f p * 1000000000000) * (4000000000000000000 * 4000000000000000000) := Int.mul_le_mul_of_nonneg_right s1 (by omega)
  omega
end Go.Kq

namespace Go.Kq

theorem floor_rnd {q : Rat} {V d : Int} (hd : 0 < d) (hq : q * (d : Rat) = (V : Rat)) : q.floor = rnd false V d := by
  obtain ⟨h1, h2⟩ := rnd_down V hd
  generalize rnd false V d = z at h1 h2 ⊢
  have hd' : (0 : Rat) < (d : Rat) := Rat.intCast_lt_intCast.2 hd
  have a : z ≤ q.floor := Rat.le_floor_iff.2 (Rat.le_of_mul_le_mul_right (by
    rw [hq, ← Rat.intCast_mul]
    exact Rat.intCast_le_intCast.2 h1) hd')
  have b : q.floor < z + 1 := Rat.floor_lt_iff.2 ((Rat.mul_lt_mul_right hd').1 (by
    rw [hq, ← Rat.intCast_mul]
    exact Rat.intCast_lt_intCast.2 (by rw [Int.add_mul]; omega)))
  omega
theorem ceil_rnd {q : Rat} {V d : Int} (hd : 0 < d) (hq : q * (d : Rat) = (V : Rat)) : q.ceil = rnd true V d := by
  rw [Rat.ceil_eq_neg_floor_neg, floor_rnd (V := -V) hd (by rw [Rat.neg_mul, hq, Rat.intCast_neg])]
  rfl
theorem scale_mul (x num den : Int) (hd : 0 < den) : (x : Rat) * ((num : Rat) / (den : Rat)) * (den : Rat) = ((x * num : Int) : Rat) := by
  have hne : (den : Rat) ≠ 0 := fun h => by
    have := (Rat.intCast_lt_intCast (a := 0) (b := den)).2 hd
    rw [h] at this
    exact absurd this (by decide)
  rw [Rat.mul_assoc, Rat.div_mul_cancel hne, Rat.intCast_mul]
theorem div_nn (num den : Int) (hn : 0 ≤ num) (hd : 0 < den) : (0 : Rat) ≤ (num : Rat) / (den : Rat) := by
  have hd' : (0 : Rat) < (den : Rat) := Rat.intCast_lt_intCast.2 hd
  refine Rat.le_of_mul_le_mul_right (c := (den : Rat)) ?_ hd'
  rw [Rat.div_mul_cancel (fun h => by rw [h] at hd'; exact absurd hd' (by decide)), Rat.zero_mul]
  exact Rat.intCast_le_intCast (a := 0).2 hn
theorem disc_mul (b k : Int) : ((b : Rat) * (b : Rat) * (((1 : Int) : Rat) / ((4 : Int) : Rat))) * ((k : Rat) / ((1000000000000000000 : Int) : Rat)) * ((4000000000000000000 : Int) : Rat) = ((b * b * k : Int) : Rat) := by
  have h4 : ((4 : Int) : Rat) ≠ 0 := by decide
  have h1 : ((1000000000000000000 : Int) : Rat) ≠ 0 := by decide
  have e : ((4000000000000000000 : Int) : Rat) = ((4 : Int) : Rat) * ((1000000000000000000 : Int) : Rat) := by rw [← Rat.intCast_mul]; rfl
  rw [e, Rat.intCast_mul, Rat.intCast_mul]
  generalize ((1000000000000000000 : Int) : Rat) = M at *
  have e1 : (k : Rat) / M * (((4 : Int) : Rat) * M) = ((4 : Int) : Rat) * (k : Rat) := by
    rw [Rat.mul_comm ((4 : Int) : Rat) M, ← Rat.mul_assoc, Rat.div_mul_cancel h1, Rat.mul_comm]
  rw [Rat.mul_assoc _ ((k : Rat) / M), e1, Rat.mul_assoc ((b : Rat) * (b : Rat)), ← Rat.mul_assoc (((1 : Int) : Rat) / ((4 : Int) : Rat)), Rat.div_mul_cancel h4, Rat.intCast_one, Rat.one_mul]
end Go.Kq
