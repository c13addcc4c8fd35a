/- A quotient of two words by one word, digit by digit: plain. No program in sight. · How many bits a number has. No program in sight. -/
import Derived.Lib.Mul64
import Derived.Lib.BitFns
namespace Go.Kq

/-- The first guess of a digit is not too small, and too great by two at most. -/
theorem digit_first {B y a c u n : Nat} (hy : y = a * B + c) (hu : u < y) (hn : n < B) (ha : 0 < a) (h2 : B ≤ 2 * a) (hc : c < B) : (u * B + n) / y ≤ u / a ∧ u / a ≤ B + 1 := by
  constructor
  · rw [Nat.le_div_iff_mul_le ha]
    have h1 : (u * B + n) / y * y ≤ u * B + n := Nat.div_mul_le_self _ _
    have hB : 0 < B := by omega
    refine Nat.lt_succ_iff.1 (Nat.lt_of_mul_lt_mul_right (a := B) ?_)
    calc (u * B + n) / y * a * B = (u * B + n) / y * (a * B) := Nat.mul_assoc _ _ _
      _ ≤ (u * B + n) / y * y := Nat.mul_le_mul_left _ (by omega)
      _ ≤ u * B + n := h1
      _ < (u + 1) * B := by rw [Nat.add_mul]; omega
  · refine Nat.lt_succ_iff.1 ((Nat.div_lt_iff_lt_mul ha).2 ?_)
    have : (B + 1 + 1) * a = a * B + a + a := by rw [Nat.add_mul, Nat.add_mul, Nat.mul_comm B a]; omega
    show u < (B + 1 + 1) * a
    omega
theorem digit_small {B y u n : Nat} (hu : u < y) (hn : n < B) : (u * B + n) / y < B := by
  rw [Nat.div_lt_iff_lt_mul (by omega)]
  have : (u + 1) * B ≤ y * B := Nat.mul_le_mul_right _ hu
  rw [Nat.add_mul] at this
  rw [Nat.mul_comm B y]
  omega
/-- What q times y is, by the digits of y. -/
theorem digit_mul {B y a c u q r : Nat} (hy : y = a * B + c) (hq : q * a + r = u) : q * y + r * B = u * B + q * c := by
  rw [hy, ← hq, Nat.mul_add, Nat.add_mul, Nat.mul_assoc]
  omega
/-- The test says that the guess is too great. -/
theorem digit_great {B y a c u n q r : Nat} (hy : y = a * B + c) (hu : u < y) (hn : n < B) (hq : q * a + r = u) (ht : B ≤ q ∨ B * r + n < q * c) : (u * B + n) / y + 1 ≤ q := by
  rcases ht with h | h
  · have := digit_small hu hn
    omega
  · have := digit_mul hy hq
    refine (Nat.div_lt_iff_lt_mul (by omega)).2 ?_
    rw [Nat.mul_comm r B] at this
    omega
/-- The test says that it is not. -/
theorem digit_done {B y a c u n q r : Nat} (hy : y = a * B + c) (hu : u < y) (hq : q * a + r = u) (hQ : (u * B + n) / y ≤ q) (ht : q * c ≤ B * r + n) : q = (u * B + n) / y := by
  have h1 := digit_mul hy hq
  rw [Nat.mul_comm r B] at h1
  have : q ≤ (u * B + n) / y := (Nat.le_div_iff_mul_le (by omega)).2 (by omega)
  omega
/-- The loop is left when the rest is a digit too great. -/
theorem digit_break {B y a c u n q r : Nat} (hy : y = a * B + c) (hu : u < y) (hq : q * a + r = u) (hQ : (u * B + n) / y ≤ q) (hr : B ≤ r) (hqB : q ≤ B) (hc : c < B) : q = (u * B + n) / y := by
  refine digit_done hy hu hq hQ ?_
  calc q * c ≤ B * B := Nat.mul_le_mul hqB (by omega)
    _ ≤ B * r := Nat.mul_le_mul_left _ hr
    _ ≤ B * r + n := by omega

/-- The quotient out of both digits, of what has been shifted. -/
theorem two_digits {B N y u n1 n0 : Nat} (hy : 0 < y) (hN : N = (u * B + n1) * B + n0) :
    N / y = (u * B + n1) / y * B + ((u * B + n1) % y * B + n0) / y ∧ N % y = ((u * B + n1) % y * B + n0) % y := by
  have h1 := Nat.div_add_mod (u * B + n1) y
  have e : N = y * ((u * B + n1) / y * B) + ((u * B + n1) % y * B + n0) := by
    have h2 : N = (y * ((u * B + n1) / y) + (u * B + n1) % y) * B + n0 := by rw [h1]; exact hN
    rw [h2, Nat.add_mul, Nat.mul_assoc]
    omega
  constructor
  · rw [e, Nat.mul_add_div hy]
  · rw [e, Nat.mul_add_mod]
theorem shifted_div {N y s : Nat} : N * 2 ^ s / (y * 2 ^ s) = N / y := Nat.mul_div_mul_right _ _ (Nat.two_pow_pos s)
theorem shifted_mod {N y s : Nat} : N * 2 ^ s % (y * 2 ^ s) = N % y * 2 ^ s := Nat.mul_mod_mul_right _ _ _
theorem or_sum {a b s : Nat} (h : b < 2 ^ s) : (a * 2 ^ s) ||| b = a * 2 ^ s + b := by
  rw [Nat.mul_comm a, ← Nat.two_pow_add_eq_or_of_lt h]
/-- Both words, shifted. -/
theorem shift_words {hi lo s : Nat} (hs : s ≤ 64) : (hi * 2 ^ 64 + lo) * 2 ^ s = (hi * 2 ^ s + lo / 2 ^ (64 - s)) * 2 ^ 64 + lo * 2 ^ s % 2 ^ 64 := by
  have h1 : 2 ^ 64 = 2 ^ (64 - s) * 2 ^ s := by rw [← Nat.pow_add]; congr 1; omega
  have h2 : lo * 2 ^ s / 2 ^ 64 = lo / 2 ^ (64 - s) := by rw [h1]; exact Nat.mul_div_mul_right _ _ (Nat.two_pow_pos s)
  have h3 := Nat.div_add_mod (lo * 2 ^ s) (2 ^ 64)
  rw [h2] at h3
  rw [Nat.add_mul, Nat.add_mul, Nat.mul_assoc, Nat.mul_comm (2 ^ 64) (2 ^ s), ← Nat.mul_assoc, Nat.add_assoc, Nat.mul_comm (lo / 2 ^ (64 - s)) (2 ^ 64), h3]
end Go.Kq

namespace Go.Kq
theorem bitLen_bounds : ∀ x : Nat, x ≠ 0 → x < 2 ^ 64 → 1 ≤ Lib.bitLen x ∧ 2 ^ (Lib.bitLen x - 1) ≤ x ∧ x < 2 ^ Lib.bitLen x := by
  intro x
  induction x using Nat.strongRecOn with
  | _ x ih =>
    intro h0 h
    rw [Lib.bitLen_half x h0 h]
    by_cases h1 : x / 2 = 0
    · have hx : x = 1 := by omega
      subst hx
      have : Lib.bitLen (1 / 2) = 0 := by decide
      rw [this]
      decide
    · obtain ⟨i1, i2, i3⟩ := ih (x / 2) (by omega) h1 (by omega)
      refine ⟨by omega, ?_, ?_⟩
      · have e : 2 ^ (1 + Lib.bitLen (x / 2) - 1) = 2 * 2 ^ (Lib.bitLen (x / 2) - 1) := by
          rw [← Nat.pow_succ']
          congr 1
          omega
        omega
      · have e : 2 ^ (1 + Lib.bitLen (x / 2)) = 2 * 2 ^ Lib.bitLen (x / 2) := by
          rw [Nat.add_comm, Nat.pow_succ']
        omega
end Go.Kq
