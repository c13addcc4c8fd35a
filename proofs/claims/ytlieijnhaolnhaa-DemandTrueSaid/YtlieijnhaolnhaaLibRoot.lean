/- Square roots of whole numbers, and what grows with what: plain. No program in sight. -/
import Derived.Test.YtlieijnhaolnhaaLibSpan
namespace Go.Kq

def isq : Nat → Nat
  | 0 => 0
  | n + 1 => if (isq n + 1) * (isq n + 1) ≤ n + 1 then isq n + 1 else isq n
theorem isq_spec : ∀ n, isq n * isq n ≤ n ∧ n < (isq n + 1) * (isq n + 1)
  | 0 => by simp [isq]
  | n + 1 => by
    obtain ⟨h1, h2⟩ := isq_spec n
    unfold isq
    split
    · rename_i h
      refine ⟨h, ?_⟩
      have : (isq n + 1 + 1) * (isq n + 1 + 1) = (isq n + 1) * (isq n + 1) + (isq n + 1) + (isq n + 1) + 1 := by
        rw [Nat.mul_add, Nat.add_mul]
        omega
      omega
    · rename_i h
      omega
theorem sq_mono {a b : Nat} (h : a ≤ b) : a * a ≤ b * b := Nat.mul_le_mul h h
theorem sq_lt {a b : Nat} (h : a * a < b * b) : a < b := by
  rcases Nat.lt_or_ge a b with h1 | h1
  · exact h1
  · exact absurd (sq_mono h1) (by omega)
theorem isq_unique {n r : Nat} (h1 : r * r ≤ n) (h2 : n < (r + 1) * (r + 1)) : r = isq n := by
  obtain ⟨h3, h4⟩ := isq_spec n
  have a := sq_lt (a := r) (b := isq n + 1) (by omega)
  have b := sq_lt (a := isq n) (b := r + 1) (by omega)
  omega
theorem isq_mono {a b : Nat} (h : a ≤ b) : isq a ≤ isq b := by
  obtain ⟨h1, _⟩ := isq_spec a
  obtain ⟨_, h4⟩ := isq_spec b
  have := sq_lt (a := isq a) (b := isq b + 1) (by omega)
  omega
/-- Rounded up. -/
def csq (n : Nat) : Nat := if isq n * isq n < n then isq n + 1 else isq n
theorem csq_le (n : Nat) : isq n ≤ csq n ∧ csq n ≤ isq n + 1 ∧ n ≤ csq n * csq n := by
  obtain ⟨h1, h2⟩ := isq_spec n
  unfold csq
  split
  · exact ⟨by omega, by omega, by omega⟩
  · exact ⟨by omega, by omega, by omega⟩
theorem csq_min {n r : Nat} (h : n ≤ r * r) : csq n ≤ r := by
  obtain ⟨h1, h2⟩ := isq_spec n
  unfold csq
  split
  · rename_i h3
    have := sq_lt (a := isq n) (b := r) (by omega)
    omega
  · rcases Nat.lt_or_ge r (isq n) with h4 | h4
    · have := sq_mono (a := r + 1) (b := isq n) h4
      have e : (r + 1) * (r + 1) = r * r + r + r + 1 := by rw [Nat.mul_add, Nat.add_mul]; omega
      omega
    · exact h4
theorem csq_mono {a b : Nat} (h : a ≤ b) : csq a ≤ csq b := csq_min (Nat.le_trans h (csq_le b).2.2)
/-- The least number whose square is not less than one more is at most one more than the root. -/
theorem csq_next {n m : Nat} (h : m ≤ n + 1) : csq m ≤ isq n + 1 := csq_min (by have := (isq_spec n).2; omega)

/-! ### rounding -/
theorem rnd_mono (up : Bool) {v v' d : Int} (hd : 0 < d) (h : v ≤ v') : rnd up v d ≤ rnd up v' d := by
  unfold rnd
  split
  · have := Int.ediv_le_ediv hd (show -v' ≤ -v by omega)
    omega
  · exact Int.ediv_le_ediv hd h
theorem rnd_down (v : Int) {d : Int} (hd : 0 < d) : rnd false v d * d ≤ v ∧ v < rnd false v d * d + d := by
  unfold rnd
  rw [if_neg (by simp)]
  have h1 := Int.emod_nonneg v (show d ≠ 0 by omega)
  have h2 := Int.emod_lt_of_pos v hd
  have h3 := Int.mul_ediv_add_emod v d
  rw [Int.mul_comm] at h3
  omega
theorem rnd_up (v : Int) {d : Int} (hd : 0 < d) : v ≤ rnd true v d * d ∧ rnd true v d * d < v + d := by
  unfold rnd
  rw [if_pos rfl]
  have h1 := Int.emod_nonneg (-v) (show d ≠ 0 by omega)
  have h2 := Int.emod_lt_of_pos (-v) hd
  have h3 := Int.mul_ediv_add_emod (-v) d
  rw [Int.mul_comm] at h3
  rw [Int.neg_mul]
  omega
theorem rnd_nn (up : Bool) {v d : Int} (hd : 0 < d) (h : 0 ≤ v) : 0 ≤ rnd up v d := by
  have := rnd_mono up hd h
  have e : rnd up 0 d = 0 := by unfold rnd; split <;> simp
  rw [e] at this
  exact this
theorem rnd_both {v v' d : Int} (hd : 0 < d) (h : v ≤ v') : rnd false v d ≤ rnd true v' d := by
  refine Int.le_trans (rnd_mono false hd h) ?_
  have h1 := rnd_down v' hd
  have h2 := rnd_up v' hd
  have : rnd false v' d * d ≤ rnd true v' d * d := by omega
  exact Int.le_of_mul_le_mul_right this hd
theorem rnd_one (up : Bool) (v : Int) : rnd up v 1 = v := by unfold rnd; split <;> simp
end Go.Kq
