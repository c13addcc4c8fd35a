/- Intervals of whole numbers: floors, ceilings, spans, roots: plain. No program in sight. -/
import Derived.WalkKit
namespace Go.Kq

/-- v / d rounded down or up. -/
def rnd (up : Bool) (v d : Int) : Int := if up then -((-v) / d) else v / d
/-- What the absolute value gives, rounded so. -/
def rndA (up neg : Bool) (m d : Nat) : Nat := m / d + if m % d ≠ 0 ∧ up ≠ neg then 1 else 0
theorem neg_div {m d : Nat} (hd : 0 < d) : (-(m : Int)) / (d : Int) = -((m / d + if m % d ≠ 0 then 1 else 0 : Nat) : Int) := by
  have h1 : (m : Int) = d * ((m / d : Nat) : Int) + ((m % d : Nat) : Int) := by
    have := Nat.div_add_mod m d
    rw [← Int.natCast_mul, ← Int.natCast_add, this]
  have h2 : ((m % d : Nat) : Int) < d := by have := Nat.mod_lt m hd; omega
  have hd' : (0 : Int) < (d : Int) := by omega
  by_cases h : m % d = 0
  · rw [h] at h1
    rw [if_neg (by simp [h])]
    refine Int.ediv_eq_of_eq_mul_right (by omega) ?_
    rw [h1, Int.mul_neg]
    simp
  · rw [if_pos h]
    have e : (-(m : Int)) = (d - ((m % d : Nat) : Int)) + d * (-((m / d + 1 : Nat) : Int)) := by
      rw [Int.mul_neg, show ((m / d + 1 : Nat) : Int) = ((m / d : Nat) : Int) + 1 by omega, Int.mul_add]
      omega
    rw [e, Int.add_mul_ediv_left _ _ (by omega), Int.ediv_eq_zero_of_lt (by omega) (by omega)]
    omega
theorem rnd_abs (up : Bool) (v : Int) {d : Nat} (hd : 0 < d) : rnd up v d = if v < 0 then -((rndA up true v.natAbs d : Nat) : Int) else ((rndA up false v.natAbs d : Nat) : Int) := by
  unfold rnd rndA
  by_cases hv : v < 0
  · have e : v = -(v.natAbs : Int) := by omega
    cases up
    · rw [if_neg (by simp), if_pos hv, e, neg_div hd]
      simp
    · rw [if_pos rfl, if_pos hv]
      have e2 : -v = (v.natAbs : Int) := by omega
      rw [e2]
      simp
  · have e : v = (v.natAbs : Int) := by omega
    cases up
    · rw [if_neg (by simp), if_neg hv, e]
      simp
    · rw [if_pos rfl, if_neg hv, e, neg_div hd]
      simp
def M62 : Int := 4611686018427387904
/-- A quotient that is allowed. -/
def fits (q : Int) : Bool := decide (-M62 ≤ q) && decide (q ≤ M62)
def minL : Int → List Int → Int
  | x, [] => x
  | x, y :: l => minL (if y < x then y else x) l
def maxL : Int → List Int → Int
  | x, [] => x
  | x, y :: l => maxL (if x < y then y else x) l
/-- An interval, and an error. -/
abbrev IvE := Int × Int × Int
def spanV (d : Int) (x : Int) (l : List Int) : IvE :=
  if fits (rnd false (minL x l) d) && fits (rnd true (maxL x l) d) then (rnd false (minL x l) d, rnd true (maxL x l) d, 0) else (0, 0, 7)
end Go.Kq
