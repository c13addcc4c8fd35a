/- Square roots of whole numbers, and what grows with what: plain. No program in sight. · What a toe takes: plain. No program in sight. -/
import Derived.Test.YtakgcnjpmpcekaaGreatXLibBitM
namespace Go.Kq

def isq : Nat → Nat
  | 0 => 0
  | n + 1 => if (isq n + 1) * (isq n + 1) ≤ n + 1 then isq n + 1 else isq n
theorem isq_spec : ∀ n, isq n * isq n ≤ n ∧ n < (isq n + 1) * (isq n + 1)
  | 0 => by simp [isq]
  | n + 1 => by
    obtain ⟨h1, h2⟩ := isq_spec n
    unfold isq
    split
    · rename_i h
      refine ⟨h, ?_⟩
      have : (isq n + 1 + 1) * (isq n + 1 + 1) = (isq n + 1) * (isq n + 1) + (isq n + 1) + (isq n + 1) + 1 := by
        rw [Nat.mul_add, Nat.add_mul]
        omega
      omega
    · rename_i h
      omega
theorem sq_mono {a b : Nat} (h : a ≤ b) : a * a ≤ b * b := Nat.mul_le_mul h h
theorem sq_lt {a b : Nat} (h : a * a < b * b) : a < b := by
  rcases Nat.lt_or_ge a b with h1 | h1
  · exact h1
  · exact absurd (sq_mono h1) (by omega)
theorem isq_unique {n r : Nat} (h1 : r * r ≤ n) (h2 : n < (r + 1) * (r + 1)) : r = isq n := by
  obtain ⟨h3, h4⟩ := isq_spec n
  have a := sq_lt (a := r) (b := isq n + 1) (by omega)
  have b := sq_lt (a := isq n) (b := r + 1) (by omega)
  omega
theorem isq_mono {a b : Nat} (h : a ≤ b) : isq a ≤ isq b := by
  obtain ⟨h1, _⟩ := isq_spec a
  obtain ⟨_, h4⟩ := isq_spec b
  have := sq_lt (a := isq a) (b := isq b + 1) (by omega)
  omega
/-- Rounded up. -/
def csq (n : Nat) : Nat := if isq n * isq n < n then isq n + 1 else isq n
theorem csq_le (n : Nat) : isq n ≤ csq n ∧ csq n ≤ isq n + 1 ∧ n ≤ csq n * csq n := by
  obtain ⟨h1, h2⟩ := isq_spec n
  unfold csq
  split
  · exact ⟨by omega, by omega, by omega⟩
  · exact ⟨by omega, by omega, by omega⟩
theorem csq_min {n r : Nat} (h : n ≤ r * r) : csq n ≤ r := by
  obtain ⟨h1, h2⟩ := isq_spec n
  unfold csq
  split
  · rename_i h3
    have := sq_lt (a := isq n) (b := r) (by omega)
    omega
  · rcases Nat.lt_or_ge r (isq n) with h4 | h4
    · have := sq_mono (a := r + 1) (b := isq n) h4
      have e : (r + 1) * (r + 1) = r * r + r + r + 1 := by rw [Nat.mul_add, Nat.add_mul]; omega
      omega
    · exact h4
theorem csq_mono {a b : Nat} (h : a ≤ b) : csq a ≤ csq b := csq_min (Nat.le_trans h (csq_le b).2.2)
/-- The least number whose square is not less than one more is at most one more than the root. -/
theorem csq_next {n m : Nat} (h : m ≤ n + 1) : csq m ≤ isq n + 1 := csq_min (by have := (isq_spec n).2; omega)

/-! ### rounding -/
theorem rnd_mono (up : Bool) {v v' d : Int} (hd : 0 < d) (h : v ≤ v') : rnd up v d ≤ rnd up v' d := by
  unfold rnd
  split
  · have := Int.ediv_le_ediv hd (show -v' ≤ -v by omega)
    omega
  · exact Int.ediv_le_ediv hd h
theorem rnd_down (v : Int) {d : Int} (hd : 0 < d) : rnd false v d * d ≤ v ∧ v < rnd false v d * d + d := by
  unfold rnd
  rw [if_neg (by simp)]
  have h1 := Int.emod_nonneg v (show d ≠ 0 by omega)
  have h2 := Int.emod_lt_of_pos v hd
  have h3 := Int.mul_ediv_add_emod v d
  rw [Int.mul_comm] at h3
  omega
theorem rnd_up (v : Int) {d : Int} (hd : 0 < d) : v ≤ rnd true v d * d ∧ rnd true v d * d < v + d := by
  unfold rnd
  rw [if_pos rfl]
  have h1 := Int.emod_nonneg (-v) (show d ≠ 0 by omega)
  have h2 := Int.emod_lt_of_pos (-v) hd
  have h3 := Int.mul_ediv_add_emod (-v) d
  rw [Int.mul_comm] at h3
  rw [Int.neg_mul]
  omega
theorem rnd_nn (up : Bool) {v d : Int} (hd : 0 < d) (h : 0 ≤ v) : 0 ≤ rnd up v d := by
  have := rnd_mono up hd h
  have e : rnd up 0 d = 0 := by unfold rnd; split <;> simp
  rw [e] at this
  exact this
theorem rnd_both {v v' d : Int} (hd : 0 < d) (h : v ≤ v') : rnd false v d ≤ rnd true v' d := by
  refine Int.le_trans (rnd_mono false hd h) ?_
  have h1 := rnd_down v' hd
  have h2 := rnd_up v' hd
  have : rnd false v' d * d ≤ rnd true v' d * d := by omega
  exact Int.le_of_mul_le_mul_right this hd
theorem rnd_one (up : Bool) (v : Int) : rnd up v 1 = v := by unfold rnd; split <;> simp
end Go.Kq

namespace Go.Kq

/-- The area of a disc, of n across, rounded. -/
def dlo (n : Int) : Int := rnd false (n * n * 3141592653589793238) 4000000000000000000
def dhi (n : Int) : Int := rnd true (n * n * 3141592653589793239) 4000000000000000000
def vlo (p : Int) : Int := isq (rnd false (p * 5000000000000) 3).toNat
def vhi (p : Int) : Int := csq (rnd true (p * 5000000000000) 3).toNat
def tlo (b f p : Int) : Int := rnd false (dlo b * vlo p * f) 1000000000000
def thi (b f p : Int) : Int := rnd true (dhi b * vhi p * f) 1000000000000
theorem mul_mono {a b c d : Int} (h1 : a ≤ c) (h2 : b ≤ d) (ha : 0 ≤ a) (hb : 0 ≤ b) : a * b ≤ c * d :=
  Int.le_trans (Int.mul_le_mul_of_nonneg_right h1 hb) (Int.mul_le_mul_of_nonneg_left h2 (by omega))
theorem mul4 (a b c d : Int) : a * b * (c * d) = a * c * (b * d) := by
  rw [Int.mul_assoc, Int.mul_assoc, Int.mul_left_comm b c d]
theorem mul_nn {a b : Int} (ha : 0 ≤ a) (hb : 0 ≤ b) : 0 ≤ a * b := Int.mul_nonneg ha hb
theorem sq_nn {a : Int} (ha : 0 ≤ a) : 0 ≤ a * a := mul_nn ha ha
theorem dlo_mono {a b : Int} (ha : 0 ≤ a) (h : a ≤ b) : dlo a ≤ dlo b := rnd_mono _ (by omega) (Int.mul_le_mul_of_nonneg_right (mul_mono h h ha ha) (by omega))
theorem dhi_mono {a b : Int} (ha : 0 ≤ a) (h : a ≤ b) : dhi a ≤ dhi b := rnd_mono _ (by omega) (Int.mul_le_mul_of_nonneg_right (mul_mono h h ha ha) (by omega))
theorem dlo_nn {a : Int} (ha : 0 ≤ a) : 0 ≤ dlo a := rnd_nn _ (by omega) (mul_nn (sq_nn ha) (by omega))
theorem dlo_dhi {a : Int} (ha : 0 ≤ a) : dlo a ≤ dhi a := rnd_both (by omega) (Int.mul_le_mul_of_nonneg_left (by omega) (sq_nn ha))
theorem vlo_nn (p : Int) : 0 ≤ vlo p := by unfold vlo; omega
theorem vlo_mono {p q : Int} (h : p ≤ q) : vlo p ≤ vlo q := by
  unfold vlo
  have := rnd_mono false (d := 3) (by omega) (show p * 5000000000000 ≤ q * 5000000000000 by omega)
  have := isq_mono (a := (rnd false (p * 5000000000000) 3).toNat) (b := (rnd false (q * 5000000000000) 3).toNat) (by omega)
  omega
theorem vhi_mono {p q : Int} (h : p ≤ q) : vhi p ≤ vhi q := by
  unfold vhi
  have := rnd_mono true (d := 3) (by omega) (show p * 5000000000000 ≤ q * 5000000000000 by omega)
  have := csq_mono (a := (rnd true (p * 5000000000000) 3).toNat) (b := (rnd true (q * 5000000000000) 3).toNat) (by omega)
  omega
theorem vlo_vhi {p : Int} (_h : 0 ≤ p) : vlo p ≤ vhi p ∧ vhi p ≤ vlo p + 1 := by
  unfold vlo vhi
  have h1 := rnd_down (p * 5000000000000) (d := 3) (by omega)
  have h2 := rnd_up (p * 5000000000000) (d := 3) (by omega)
  have a := isq_mono (a := (rnd false (p * 5000000000000) 3).toNat) (b := (rnd true (p * 5000000000000) 3).toNat) (by omega)
  have b := (csq_le (rnd true (p * 5000000000000) 3).toNat).1
  have c := csq_next (n := (rnd false (p * 5000000000000) 3).toNat) (m := (rnd true (p * 5000000000000) 3).toNat) (by omega)
  omega
theorem vhi_le {p : Int} (h0 : 0 ≤ p) (h : p ≤ 5000) : vhi p ≤ 91287093 := by
  unfold vhi
  have h2 := rnd_up (p * 5000000000000) (d := 3) (by omega)
  have := csq_min (n := (rnd true (p * 5000000000000) 3).toNat) (r := 91287093) (by omega)
  omega
theorem dhi_le {b : Int} (h0 : 0 ≤ b) (h : b ≤ 100000) : dhi b ≤ 7853981634 := by
  refine Int.le_trans (dhi_mono h0 h) ?_
  unfold dhi rnd
  decide
theorem dhi_dlo {b : Int} (h0 : 0 ≤ b) (h : b ≤ 100000) : dhi b ≤ dlo b + 2 := by
  unfold dlo dhi
  have h1 := rnd_down (b * b * 3141592653589793238) (d := 4000000000000000000) (by omega)
  have h2 := rnd_up (b * b * 3141592653589793239) (d := 4000000000000000000) (by omega)
  have h3 := mul_mono h h h0 h0
  omega
theorem tlo_mono {b f p c g q : Int} (hb : 0 ≤ b) (hf : 0 ≤ f) (h1 : b ≤ c) (h2 : f ≤ g) (h3 : p ≤ q) : tlo b f p ≤ tlo c g q :=
  rnd_mono _ (by omega) (mul_mono (mul_mono (dlo_mono hb h1) (vlo_mono h3) (dlo_nn hb) (vlo_nn p)) h2 (mul_nn (dlo_nn hb) (vlo_nn p)) hf)
theorem vhi_nn (p : Int) : 0 ≤ vhi p := by unfold vhi; omega
theorem dhi_nn {b : Int} (hb : 0 ≤ b) : 0 ≤ dhi b := rnd_nn _ (by omega) (mul_nn (sq_nn hb) (by omega))
theorem thi_mono {b f p c g q : Int} (hb : 0 ≤ b) (hf : 0 ≤ f) (h1 : b ≤ c) (h2 : f ≤ g) (h3 : p ≤ q) : thi b f p ≤ thi c g q :=
  rnd_mono _ (by omega) (mul_mono (mul_mono (dhi_mono hb h1) (vhi_mono h3) (dhi_nn hb) (vhi_nn p)) h2 (mul_nn (dhi_nn hb) (vhi_nn p)) hf)
theorem tlo_nn {b f p : Int} (hb : 0 ≤ b) (hf : 0 ≤ f) : 0 ≤ tlo b f p := rnd_nn _ (by omega) (mul_nn (mul_nn (dlo_nn hb) (vlo_nn p)) hf)
theorem tlo_thi {b f p : Int} (hb : 0 ≤ b) (hf : 0 ≤ f) (hp : 0 ≤ p) : tlo b f p ≤ thi b f p :=
  rnd_both (by omega) (Int.mul_le_mul_of_nonneg_right (mul_mono (dlo_dhi hb) (vlo_vhi hp).1 (dlo_nn hb) (vlo_nn p)) hf)
theorem prod_le {b p : Int} (hb : 0 ≤ b) (hb2 : b ≤ 100000) (hp : 0 ≤ p) (hp2 : p ≤ 5000) : dhi b * vhi p ≤ 716967166660000000 + 2000000000000 := by
  have := mul_mono (dhi_le hb hb2) (vhi_le hp hp2) (dhi_nn hb) (vhi_nn p)
  omega
theorem thi_le {b f p : Int} (hb : 0 ≤ b) (hb2 : b ≤ 100000) (hf : 0 ≤ f) (hf2 : f ≤ 1000) (hp : 0 ≤ p) (hp2 : p ≤ 5000) : thi b f p ≤ 1000000000 := by
  have h1 := prod_le hb hb2 hp hp2
  have h2 := mul_mono h1 hf2 (mul_nn (dhi_nn hb) (vhi_nn p)) hf
  unfold thi
  have h3 := rnd_up (dhi b * vhi p * f) (d := 1000000000000) (by omega)
  omega
/-- An interval is at most 10 wide. -/
theorem wide {b f p : Int} (hb : 0 ≤ b) (hb2 : b ≤ 100000) (hf : 0 ≤ f) (hf2 : f ≤ 1000) (hp : 0 ≤ p) (hp2 : p ≤ 5000) : thi b f p - tlo b f p ≤ 10 := by
  have a1 := dhi_dlo hb hb2
  have a2 := dlo_dhi hb
  have a3 := dhi_le hb hb2
  have a4 := dlo_nn hb
  have v1 := vlo_vhi hp
  have v2 := vhi_le hp hp2
  have v3 := vlo_nn p
  -- the products part by a few thousand millions
  have e1 : dhi b * vhi p ≤ dhi b * (vlo p + 1) := Int.mul_le_mul_of_nonneg_left v1.2 (dhi_nn hb)
  have e2 : dhi b * (vlo p + 1) = dhi b * vlo p + dhi b := by rw [Int.mul_add]; omega
  have e3 : dhi b * vlo p ≤ (dlo b + 2) * vlo p := Int.mul_le_mul_of_nonneg_right a1 v3
  have e4 : (dlo b + 2) * vlo p = dlo b * vlo p + 2 * vlo p := Int.add_mul _ _ _
  have e5 : dhi b * vhi p - dlo b * vlo p ≤ 8036555820 := by omega
  have e6 : (dhi b * vhi p - dlo b * vlo p) * f ≤ 8036555820 * 1000 := by
    have h1 : (dhi b * vhi p - dlo b * vlo p) * f ≤ 8036555820 * f := Int.mul_le_mul_of_nonneg_right e5 hf
    omega
  rw [Int.sub_mul] at e6
  unfold thi tlo
  have h3 := rnd_up (dhi b * vhi p * f) (d := 1000000000000) (by omega)
  have h4 := rnd_down (dlo b * vlo p * f) (d := 1000000000000) (by omega)
  omega
/-! ### the squares -/
theorem sq_le_sq {a b : Int} (ha : 0 ≤ a) (h : a ≤ b) : a * a ≤ b * b := mul_mono h h ha ha
theorem vlo_sq {p : Int} (hp : 0 ≤ p) : 3 * (vlo p * vlo p) ≤ p * 5000000000000 := by
  have h1 := rnd_down (p * 5000000000000) (d := 3) (by omega)
  have h0 := rnd_nn false (d := 3) (by omega) (show 0 ≤ p * 5000000000000 by omega)
  have h2 := (isq_spec (rnd false (p * 5000000000000) 3).toNat).1
  have h3 : vlo p * vlo p ≤ rnd false (p * 5000000000000) 3 := by
    unfold vlo
    rw [← Int.natCast_mul]
    omega
  omega
theorem vhi_sq {p : Int} (hp : 0 ≤ p) : p * 5000000000000 ≤ 3 * (vhi p * vhi p) := by
  have h1 := rnd_up (p * 5000000000000) (d := 3) (by omega)
  have h0 := rnd_nn true (d := 3) (by omega) (show 0 ≤ p * 5000000000000 by omega)
  have h2 := (csq_le (rnd true (p * 5000000000000) 3).toNat).2.2
  have h3 : rnd true (p * 5000000000000) 3 ≤ vhi p * vhi p := by
    unfold vhi
    rw [← Int.natCast_mul]
    omega
  omega
theorem regroup (a v f k : Int) : (a * v * f) * (a * v * f) * (k * k) = (a * k) * (a * k) * (v * v) * (f * f) := by
  simp only [Int.mul_comm, Int.mul_left_comm]
theorem low_sq {b f p : Int} (hb : 0 ≤ b) (hf : 0 ≤ f) (hp : 0 ≤ p) :
    3 * (tlo b f p * tlo b f p) * (4000000000000000000000000000000 * 4000000000000000000000000000000) ≤ 5000000000000 * p * (f * f) * (b * b * (b * b)) * (3141592653589793238 * 3141592653589793238) := by
  have h1 := (rnd_down (dlo b * vlo p * f) (d := 1000000000000) (by omega)).1
  have h2 := (rnd_down (b * b * 3141592653589793238) (d := 4000000000000000000) (by omega)).1
  have n1 := tlo_nn (p := p) hb hf
  have nd := dlo_nn hb
  have nv := vlo_nn p
  have s1 : tlo b f p * 1000000000000 * (tlo b f p * 1000000000000) ≤ dlo b * vlo p * f * (dlo b * vlo p * f) := sq_le_sq (by omega) h1
  have s2 : dlo b * 4000000000000000000 * (dlo b * 4000000000000000000) ≤ b * b * 3141592653589793238 * (b * b * 3141592653589793238) := sq_le_sq (by omega) h2
  have s3 := vlo_sq hp
  have s4 : dlo b * vlo p * f * (dlo b * vlo p * f) * (4000000000000000000 * 4000000000000000000) = (dlo b * 4000000000000000000) * (dlo b * 4000000000000000000) * (vlo p * vlo p) * (f * f) := regroup _ _ _ _
  have s5 : (dlo b * 4000000000000000000) * (dlo b * 4000000000000000000) * (vlo p * vlo p) * (f * f) ≤ (b * b * 3141592653589793238 * (b * b * 3141592653589793238)) * (vlo p * vlo p) * (f * f) :=
    Int.mul_le_mul_of_nonneg_right (Int.mul_le_mul_of_nonneg_right s2 (sq_nn nv)) (sq_nn hf)
  have s6 : (b * b * 3141592653589793238 * (b * b * 3141592653589793238)) * (3 * (vlo p * vlo p)) * (f * f) ≤ (b * b * 3141592653589793238 * (b * b * 3141592653589793238)) * (p * 5000000000000) * (f * f) :=
    Int.mul_le_mul_of_nonneg_right (Int.mul_le_mul_of_nonneg_left s3 (sq_nn (mul_nn (sq_nn hb) (by omega)))) (sq_nn hf)
  have s7 : (b * b * 3141592653589793238 * (b * b * 3141592653589793238)) * (3 * (vlo p * vlo p)) * (f * f) = 3 * ((b * b * 3141592653589793238 * (b * b * 3141592653589793238)) * (vlo p * vlo p) * (f * f)) := by
    simp only [Int.mul_assoc, Int.mul_left_comm]
  have s8 : (b * b * 3141592653589793238 * (b * b * 3141592653589793238)) * (p * 5000000000000) * (f * f) = 5000000000000 * p * (f * f) * (b * b * (b * b)) * (3141592653589793238 * 3141592653589793238) := by
    simp only [Int.mul_assoc, Int.mul_comm, Int.mul_left_comm]
  have s9 : 3 * (tlo b f p * tlo b f p) * (4000000000000000000000000000000 * 4000000000000000000000000000000) = 3 * (tlo b f p * 1000000000000 * (tlo b f p * 1000000000000) * (4000000000000000000 * 4000000000000000000)) := by
    rw [mul4 (tlo b f p) 1000000000000 (tlo b f p) 1000000000000]
    omega
  rw [s9]
  have s10 : tlo b f p * 1000000000000 * (tlo b f p * 1000000000000) * (4000000000000000000 * 4000000000000000000) ≤ dlo b * vlo p * f * (dlo b * vlo p * f) * (4000000000000000000 * 4000000000000000000) := Int.mul_le_mul_of_nonneg_right s1 (by omega)
  omega
theorem high_sq {b f p : Int} (hb : 0 ≤ b) (hf : 0 ≤ f) (hp : 0 ≤ p) :
    5000000000000 * p * (f * f) * (b * b * (b * b)) * (3141592653589793239 * 3141592653589793239) ≤ 3 * (thi b f p * thi b f p) * (4000000000000000000000000000000 * 4000000000000000000000000000000) := by
  have h1 := (rnd_up (dhi b * vhi p * f) (d := 1000000000000) (by omega)).1
  have h2 := (rnd_up (b * b * 3141592653589793239) (d := 4000000000000000000) (by omega)).1
  have nd := dhi_nn hb
  have nv := vhi_nn p
  have s1 : dhi b * vhi p * f * (dhi b * vhi p * f) ≤ thi b f p * 1000000000000 * (thi b f p * 1000000000000) := sq_le_sq (mul_nn (mul_nn nd nv) hf) h1
  have s2 : b * b * 3141592653589793239 * (b * b * 3141592653589793239) ≤ dhi b * 4000000000000000000 * (dhi b * 4000000000000000000) := sq_le_sq (mul_nn (sq_nn hb) (by omega)) h2
  have s3 := vhi_sq hp
  have s4 : dhi b * vhi p * f * (dhi b * vhi p * f) * (4000000000000000000 * 4000000000000000000) = (dhi b * 4000000000000000000) * (dhi b * 4000000000000000000) * (vhi p * vhi p) * (f * f) := regroup _ _ _ _
  have s5 : (b * b * 3141592653589793239 * (b * b * 3141592653589793239)) * (vhi p * vhi p) * (f * f) ≤ (dhi b * 4000000000000000000) * (dhi b * 4000000000000000000) * (vhi p * vhi p) * (f * f) :=
    Int.mul_le_mul_of_nonneg_right (Int.mul_le_mul_of_nonneg_right s2 (sq_nn nv)) (sq_nn hf)
  have s6 : (b * b * 3141592653589793239 * (b * b * 3141592653589793239)) * (p * 5000000000000) * (f * f) ≤ (b * b * 3141592653589793239 * (b * b * 3141592653589793239)) * (3 * (vhi p * vhi p)) * (f * f) :=
    Int.mul_le_mul_of_nonneg_right (Int.mul_le_mul_of_nonneg_left s3 (sq_nn (mul_nn (sq_nn hb) (by omega)))) (sq_nn hf)
  have s7 : (b * b * 3141592653589793239 * (b * b * 3141592653589793239)) * (3 * (vhi p * vhi p)) * (f * f) = 3 * ((b * b * 3141592653589793239 * (b * b * 3141592653589793239)) * (vhi p * vhi p) * (f * f)) := by
    simp only [Int.mul_assoc, Int.mul_left_comm]
  have s8 : (b * b * 3141592653589793239 * (b * b * 3141592653589793239)) * (p * 5000000000000) * (f * f) = 5000000000000 * p * (f * f) * (b * b * (b * b)) * (3141592653589793239 * 3141592653589793239) := by
    simp only [Int.mul_assoc, Int.mul_comm, Int.mul_left_comm]
  have s9 : 3 * (thi b f p * thi b f p) * (4000000000000000000000000000000 * 4000000000000000000000000000000) = 3 * (thi b f p * 1000000000000 * (thi b f p * 1000000000000) * (4000000000000000000 * 4000000000000000000)) := by
    rw [mul4 (thi b f p) 1000000000000 (thi b f p) 1000000000000]
    omega
  rw [s9]
  have s10 : dhi b * vhi p * f * (dhi b * vhi p * f) * (4000000000000000000 * 4000000000000000000) ≤ thi b f p * 1000000000000 * (thi b f p * 1000000000000) * (4000000000000000000 * 4000000000000000000) := Int.mul_le_mul_of_nonneg_right s1 (by omega)
  omega
end Go.Kq
