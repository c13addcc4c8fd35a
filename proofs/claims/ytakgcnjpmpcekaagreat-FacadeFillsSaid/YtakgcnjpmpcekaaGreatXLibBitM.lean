/- Intervals of whole numbers: floors, ceilings, spans, roots: plain. No program in sight. · Chapter 24: the library's functions at this dump, as their contracts want them (printed by lay.py). · spans: absolute values, products of two words and a sign, and their order. · A quotient of two words by one word, digit by digit: plain. No program in sight. · How many bits a number has. No program in sight. -/
import Derived.WalkKit
import Derived.Shelf.Lays
import Derived.Ground.NamesProg
import Derived.Shelf.SlGeneric
import Derived.Test.YtakgcnjpmpcekaaGreatProg
import Derived.KernelRfl
import Derived.Lib.Hide
import Derived.Shelf.Bits.Mul64
import Derived.Laws.StructEq
import Derived.Lib.Mul64
import Derived.Lib.BitFns
import Derived.Test.YtakgcnjpmpcekaaGreatXLibAppM
namespace Go.Kq

/-- v / d rounded down or up. -/
def rnd (up : Bool) (v d : Int) : Int := if up then -((-v) / d) else v / d
/-- What the absolute value gives, rounded so. -/
def rndA (up neg : Bool) (m d : Nat) : Nat := m / d + if m % d ≠ 0 ∧ up ≠ neg then 1 else 0
theorem neg_div {m d : Nat} (hd : 0 < d) : (-(m : Int)) / (d : Int) = -((m / d + if m % d ≠ 0 then 1 else 0 : Nat) : Int) := by
  have h1 : (m : Int) = d * ((m / d : Nat) : Int) + ((m % d : Nat) : Int) := by
    have := Nat.div_add_mod m d
    rw [← Int.natCast_mul, ← Int.natCast_add, this]
  have h2 : ((m % d : Nat) : Int) < d := by have := Nat.mod_lt m hd; omega
  have hd' : (0 : Int) < (d : Int) := by omega
  by_cases h : m % d = 0
  · rw [h] at h1
    rw [if_neg (by simp [h])]
    refine Int.ediv_eq_of_eq_mul_right (by omega) ?_
    rw [h1, Int.mul_neg]
    simp
  · rw [if_pos h]
    have e : (-(m : Int)) = (d - ((m % d : Nat) : Int)) + d * (-((m / d + 1 : Nat) : Int)) := by
      rw [Int.mul_neg, show ((m / d + 1 : Nat) : Int) = ((m / d : Nat) : Int) + 1 by omega, Int.mul_add]
      omega
    rw [e, Int.add_mul_ediv_left _ _ (by omega), Int.ediv_eq_zero_of_lt (by omega) (by omega)]
    omega
theorem rnd_abs (up : Bool) (v : Int) {d : Nat} (hd : 0 < d) : rnd up v d = if v < 0 then -((rndA up true v.natAbs d : Nat) : Int) else ((rndA up false v.natAbs d : Nat) : Int) := by
  unfold rnd rndA
  by_cases hv : v < 0
  · have e : v = -(v.natAbs : Int) := by omega
    cases up
    · rw [if_neg (by simp), if_pos hv, e, neg_div hd]
      simp
    · rw [if_pos rfl, if_pos hv]
      have e2 : -v = (v.natAbs : Int) := by omega
      rw [e2]
      simp
  · have e : v = (v.natAbs : Int) := by omega
    cases up
    · rw [if_neg (by simp), if_neg hv, e]
      simp
    · rw [if_pos rfl, if_neg hv, e, neg_div hd]
      simp
def M62 : Int := 4611686018427387904
/-- A quotient that is allowed. -/
def fits (q : Int) : Bool := decide (-M62 ≤ q) && decide (q ≤ M62)
def minL : Int → List Int → Int
  | x, [] => x
  | x, y :: l => minL (if y < x then y else x) l
def maxL : Int → List Int → Int
  | x, [] => x
  | x, y :: l => maxL (if x < y then y else x) l
/-- An interval, and an error. -/
abbrev IvE := Int × Int × Int
def spanV (d : Int) (x : Int) (l : List Int) : IvE :=
  if fits (rnd false (minL x l) d) && fits (rnd true (maxL x l) d) then (rnd false (minL x l) d, rnd true (maxL x l) d, 0) else (0, 0, 7)
end Go.Kq

namespace Go.Proofs.YtakgcnjpmpcekaaGreat
open Go.Shelf
def mul64_ren : Go.Shelf.Ren := ⟨fun | 264 => 60 | n => n, fun | 53 => 81 | 46 => 128 | n => n, fun | n => n⟩
theorem mul64 : Go.Proofs.Lays.n264 Tryz.prog mul64_ren := {
  mixed := by kernel_rfl
  f264 := Tryz.func60.trans (congrArg some (by kernel_rfl))
  t46 := Tryz.underlying128
  a46 := Tryz.isAgg128
  z46 := Tryz.sizeOf128
  v46 := Tryz.zeroValue128
  t53 := Tryz.underlying81
  a53 := Tryz.isAgg81
  z53 := Tryz.sizeOf81
  v53 := Tryz.zeroValue81 }
def lead64_ren : Go.Shelf.Ren := ⟨fun | 134 => 92 | 129 => 109 | n => n, fun | 53 => 81 | 3 => 3 | 4 => 4 | 46 => 128 | 5 => 5 | 9 => 9 | n => n, fun | n => n⟩
theorem lead64 : Go.Proofs.Lays.n134 Tryz.prog lead64_ren := {
  mixed := by kernel_rfl
  f129 := Tryz.func109.trans (congrArg some (by kernel_rfl))
  f134 := Tryz.func92.trans (congrArg some (by kernel_rfl))
  t3 := Tryz.underlying3
  a3 := Tryz.isAgg3
  z3 := Tryz.sizeOf3
  v3 := Tryz.zeroValue3
  t4 := Tryz.underlying4
  a4 := Tryz.isAgg4
  z4 := Tryz.sizeOf4
  v4 := Tryz.zeroValue4
  t5 := Tryz.underlying5
  a5 := Tryz.isAgg5
  z5 := Tryz.sizeOf5
  v5 := Tryz.zeroValue5
  t9 := Tryz.underlying9
  a9 := Tryz.isAgg9
  z9 := Tryz.sizeOf9
  v9 := Tryz.zeroValue9
  t46 := Tryz.underlying128
  a46 := Tryz.isAgg128
  z46 := Tryz.sizeOf128
  v46 := Tryz.zeroValue128
  t53 := Tryz.underlying81
  a53 := Tryz.isAgg81
  z53 := Tryz.sizeOf81
  v53 := Tryz.zeroValue81 }
end Go.Proofs.YtakgcnjpmpcekaaGreat

namespace Go.Proofs.YtakgcnjpmpcekaaGreat
open Go.RowKit Go.Kq

/-- A number of two words and a sign. -/
def lgV (v : Int) : Value := .agg #[.bool (decide (v < 0)), .int .u64 ((v.natAbs / 18446744073709551616 : Nat) : Int), .int .u64 ((v.natAbs % 18446744073709551616 : Nat) : Int)]
set_option maxHeartbeats 1000000 in
theorem size_any (n : Int) (w : World) (h1 : -9223372036854775807 ≤ n) (h2 : n ≤ 9223372036854775807) :
    Calls Tryz.prog 61 #[.int .i64 n] w fun e w' => e = .returned (.int .u64 ((n.natAbs : Nat) : Int)) ∧ w' = w := by
  by_cases hn : n < 0
  · have e : ((n.natAbs : Nat) : Int) = -n := by omega
    rw [e]
    go_enter Tryz.func61, Tryz.ntmps61
    go_wp2
    all_goals
      go_ret
      refine ⟨?_, rfl⟩
      congr 2
      try (rw [IntKind.wrap_u64]; omega)
  · have e : ((n.natAbs : Nat) : Int) = n := by omega
    rw [e]
    go_enter Tryz.func61, Tryz.ntmps61
    go_wp2
    all_goals
      go_ret
      refine ⟨?_, rfl⟩
      congr 2
      try (rw [IntKind.wrap_u64]; omega)
theorem number_any (n : Int) (w : World) : Calls Tryz.prog 40 #[.int .i64 n] w fun e w' => e = .returned (.bool (fits n)) ∧ w' = w := by
  unfold fits M62
  go_enter Tryz.func40, Tryz.ntmps40
  go_wp2
  all_goals
    go_ret
    refine ⟨ret_bool ?_, rfl⟩
    first | (simp [*]; done) | (simp; omega)
theorem or_zero {a b : Nat} : a ||| b = 0 ↔ a = 0 ∧ b = 0 := Nat.or_eq_zero_iff
theorem mul_neg_iff {a b : Int} (h : a * b ≠ 0) : (a * b < 0) ↔ ¬ ((a < 0) ↔ (b < 0)) := by
  rcases Int.lt_trichotomy a 0 with ha | ha | ha
  · rcases Int.lt_trichotomy b 0 with hb | hb | hb
    · have := Int.mul_pos_of_neg_of_neg ha hb
      constructor <;> intro h1 <;> omega
    · rw [hb] at h
      simp at h
    · have := Int.mul_neg_of_neg_of_pos ha hb
      constructor <;> intro h1 <;> omega
  · rw [ha] at h
    simp at h
  · rcases Int.lt_trichotomy b 0 with hb | hb | hb
    · have := Int.mul_neg_of_pos_of_neg ha hb
      constructor <;> intro h1 <;> omega
    · rw [hb] at h
      simp at h
    · have := Int.mul_pos ha hb
      constructor <;> intro h1 <;> omega
set_option maxHeartbeats 2000000 in
theorem times_any (a b : Int) (w : World) (ha1 : -9223372036854775807 ≤ a) (ha2 : a ≤ 9223372036854775807) (hb1 : -9223372036854775807 ≤ b) (hb2 : b ≤ 9223372036854775807) :
    Calls Tryz.prog 42 #[.int .i64 a, .int .i64 b] w fun e w' => e = .returned (lgV (a * b)) ∧ Kp No w w' := by
  obtain ⟨m, hm⟩ : ∃ m, a.natAbs * b.natAbs = m := ⟨_, rfl⟩
  have hmm : (a * b).natAbs = m := by rw [Int.natAbs_mul, hm]
  have hmul := fun w0 => Any.bits_Mul64 mul64 a.natAbs b.natAbs (by omega) (by omega) w0
  change ∀ w0, Calls Tryz.prog 60 _ _ _ at hmul
  rw [hm] at hmul
  have hmb : m < 18446744073709551616 * 18446744073709551616 := by
    rw [← hm]
    exact Nat.mul_lt_mul'' (by omega) (by omega)
  have hx : m / 18446744073709551616 < 18446744073709551616 := by omega
  have hy : m % 18446744073709551616 < 18446744073709551616 := by omega
  have hor : bits .or .u64 ((m / 18446744073709551616 : Nat) : Int) ((m % 18446744073709551616 : Nat) : Int) = (((m / 18446744073709551616) ||| (m % 18446744073709551616) : Nat) : Int) := bits_or_u64_nat _ _ hx hy
  have hoz : (m / 18446744073709551616 ||| m % 18446744073709551616) = 0 ↔ m = 0 := by
    rw [or_zero]
    omega
  have hmz : m = 0 ↔ a * b = 0 := by rw [← hmm]; omega
  have hres : lgV (a * b) = .agg #[.bool (decide (a * b < 0)), .int .u64 ((m / 18446744073709551616 : Nat) : Int), .int .u64 ((m % 18446744073709551616 : Nat) : Int)] := by unfold lgV; rw [hmm]
  rw [hres]
  have HM := Lib.hid hmul
  clear hmul hres hmm hm hmb
  generalize m / 18446744073709551616 = hi at *
  generalize m % 18446744073709551616 = lo at *
  have HZ := Lib.hid (hoz.trans hmz)
  clear hoz hmz
  generalize hi ||| lo = o at *
  have HO := Lib.hid hor
  clear hor
  have HN := Lib.hid (@mul_neg_iff a b)
  generalize a * b = p at *
  have hs : decide (p < 0) = ((decide (a < 0) != decide (b < 0)) && !decide (o = 0)) := by
    by_cases hO : o = 0
    · have := HZ.out.1 hO
      simp [this, hO]
    · have hp : p ≠ 0 := fun h => hO (HZ.out.2 h)
      have h3 := HN.out hp
      have hO2 : decide (o = 0) = false := decide_eq_false hO
      rw [hO2]
      by_cases hA : a < 0 <;> by_cases hB : b < 0
      · rw [decide_eq_false (show ¬ p < 0 by omega), decide_eq_true hA, decide_eq_true hB]; rfl
      · rw [decide_eq_true (show p < 0 by omega), decide_eq_true hA, decide_eq_false hB]; rfl
      · rw [decide_eq_true (show p < 0 by omega), decide_eq_false hA, decide_eq_true hB]; rfl
      · rw [decide_eq_false (show ¬ p < 0 by omega), decide_eq_false hA, decide_eq_false hB]; rfl
  rw [hs]
  clear hs HZ HN
  have hor := HO.out
  by_cases hA : a < 0 <;> by_cases hB : b < 0 <;> by_cases hO : o = 0
  all_goals
    have hO' : ((o : Int) == 0) = decide (o = 0) := by rw [Bool.eq_iff_iff]; simp
    simp only [hA, hB, hO, decide_true, decide_false] at hO' ⊢
    go_enter Tryz.func42, Tryz.ntmps42
    go_wp2_with fail
    refine (size_any a _ (by omega) (by omega)).mono ?_
    rintro e w1 ⟨rfl, rfl⟩
    go_wp2_with fail
    refine (size_any b _ (by omega) (by omega)).mono ?_
    rintro e w1 ⟨rfl, rfl⟩
    go_wp2_with fail
    refine (HM.out _).mono ?_
    rintro e w1 ⟨rfl, rfl⟩
    go_wp2_with fail
    refine bodyPost_ret (by first | (simp [results, Tryz.results42, go_sem, hA, hB, hO]; done) | (simp [results, Tryz.results42, go_sem, hA, hB, hO]; omega)) rfl ⟨rfl, ?_⟩
    exact Kp.alloc _ _ _
end Go.Proofs.YtakgcnjpmpcekaaGreat

namespace Go.Kq

/-- The first guess of a digit is not too small, and too great by two at most. -/
theorem digit_first {B y a c u n : Nat} (hy : y = a * B + c) (hu : u < y) (hn : n < B) (ha : 0 < a) (h2 : B ≤ 2 * a) (hc : c < B) : (u * B + n) / y ≤ u / a ∧ u / a ≤ B + 1 := by
  constructor
  · rw [Nat.le_div_iff_mul_le ha]
    have h1 : (u * B + n) / y * y ≤ u * B + n := Nat.div_mul_le_self _ _
    have hB : 0 < B := by omega
    refine Nat.lt_succ_iff.1 (Nat.lt_of_mul_lt_mul_right (a := B) ?_)
    calc (u * B + n) / y * a * B = (u * B + n) / y * (a * B) := Nat.mul_assoc _ _ _
      _ ≤ (u * B + n) / y * y := Nat.mul_le_mul_left _ (by omega)
      _ ≤ u * B + n := h1
      _ < (u + 1) * B := by rw [Nat.add_mul]; omega
  · refine Nat.lt_succ_iff.1 ((Nat.div_lt_iff_lt_mul ha).2 ?_)
    have : (B + 1 + 1) * a = a * B + a + a := by rw [Nat.add_mul, Nat.add_mul, Nat.mul_comm B a]; omega
    show u < (B + 1 + 1) * a
    omega
theorem digit_small {B y u n : Nat} (hu : u < y) (hn : n < B) : (u * B + n) / y < B := by
  rw [Nat.div_lt_iff_lt_mul (by omega)]
  have : (u + 1) * B ≤ y * B := Nat.mul_le_mul_right _ hu
  rw [Nat.add_mul] at this
  rw [Nat.mul_comm B y]
  omega
/-- What q times y is, by the digits of y. -/
theorem digit_mul {B y a c u q r : Nat} (hy : y = a * B + c) (hq : q * a + r = u) : q * y + r * B = u * B + q * c := by
  rw [hy, ← hq, Nat.mul_add, Nat.add_mul, Nat.mul_assoc]
  omega
/-- The test says that the guess is too great. -/
theorem digit_great {B y a c u n q r : Nat} (hy : y = a * B + c) (hu : u < y) (hn : n < B) (hq : q * a + r = u) (ht : B ≤ q ∨ B * r + n < q * c) : (u * B + n) / y + 1 ≤ q := by
  rcases ht with h | h
  · have := digit_small hu hn
    omega
  · have := digit_mul hy hq
    refine (Nat.div_lt_iff_lt_mul (by omega)).2 ?_
    rw [Nat.mul_comm r B] at this
    omega
/-- The test says that it is not. -/
theorem digit_done {B y a c u n q r : Nat} (hy : y = a * B + c) (hu : u < y) (hq : q * a + r = u) (hQ : (u * B + n) / y ≤ q) (ht : q * c ≤ B * r + n) : q = (u * B + n) / y := by
  have h1 := digit_mul hy hq
  rw [Nat.mul_comm r B] at h1
  have : q ≤ (u * B + n) / y := (Nat.le_div_iff_mul_le (by omega)).2 (by omega)
  omega
/-- The loop is left when the rest is a digit too great. -/
theorem digit_break {B y a c u n q r : Nat} (hy : y = a * B + c) (hu : u < y) (hq : q * a + r = u) (hQ : (u * B + n) / y ≤ q) (hr : B ≤ r) (hqB : q ≤ B) (hc : c < B) : q = (u * B + n) / y := by
  refine digit_done hy hu hq hQ ?_
  calc q * c ≤ B * B := Nat.mul_le_mul hqB (by omega)
    _ ≤ B * r := Nat.mul_le_mul_left _ hr
    _ ≤ B * r + n := by omega

/-- The quotient out of both digits, of what has been shifted. -/
theorem two_digits {B N y u n1 n0 : Nat} (hy : 0 < y) (hN : N = (u * B + n1) * B + n0) :
    N / y = (u * B + n1) / y * B + ((u * B + n1) % y * B + n0) / y ∧ N % y = ((u * B + n1) % y * B + n0) % y := by
  have h1 := Nat.div_add_mod (u * B + n1) y
  have e : N = y * ((u * B + n1) / y * B) + ((u * B + n1) % y * B + n0) := by
    have h2 : N = (y * ((u * B + n1) / y) + (u * B + n1) % y) * B + n0 := by rw [h1]; exact hN
    rw [h2, Nat.add_mul, Nat.mul_assoc]
    omega
  constructor
  · rw [e, Nat.mul_add_div hy]
  · rw [e, Nat.mul_add_mod]
theorem shifted_div {N y s : Nat} : N * 2 ^ s / (y * 2 ^ s) = N / y := Nat.mul_div_mul_right _ _ (Nat.two_pow_pos s)
theorem shifted_mod {N y s : Nat} : N * 2 ^ s % (y * 2 ^ s) = N % y * 2 ^ s := Nat.mul_mod_mul_right _ _ _
theorem or_sum {a b s : Nat} (h : b < 2 ^ s) : (a * 2 ^ s) ||| b = a * 2 ^ s + b := by
  rw [Nat.mul_comm a, ← Nat.two_pow_add_eq_or_of_lt h]
/-- Both words, shifted. -/
theorem shift_words {hi lo s : Nat} (hs : s ≤ 64) : (hi * 2 ^ 64 + lo) * 2 ^ s = (hi * 2 ^ s + lo / 2 ^ (64 - s)) * 2 ^ 64 + lo * 2 ^ s % 2 ^ 64 := by
  have h1 : 2 ^ 64 = 2 ^ (64 - s) * 2 ^ s := by rw [← Nat.pow_add]; congr 1; omega
  have h2 : lo * 2 ^ s / 2 ^ 64 = lo / 2 ^ (64 - s) := by rw [h1]; exact Nat.mul_div_mul_right _ _ (Nat.two_pow_pos s)
  have h3 := Nat.div_add_mod (lo * 2 ^ s) (2 ^ 64)
  rw [h2] at h3
  rw [Nat.add_mul, Nat.add_mul, Nat.mul_assoc, Nat.mul_comm (2 ^ 64) (2 ^ s), ← Nat.mul_assoc, Nat.add_assoc, Nat.mul_comm (lo / 2 ^ (64 - s)) (2 ^ 64), h3]
end Go.Kq

namespace Go.Kq
theorem bitLen_bounds : ∀ x : Nat, x ≠ 0 → x < 2 ^ 64 → 1 ≤ Lib.bitLen x ∧ 2 ^ (Lib.bitLen x - 1) ≤ x ∧ x < 2 ^ Lib.bitLen x := by
  intro x
  induction x using Nat.strongRecOn with
  | _ x ih =>
    intro h0 h
    rw [Lib.bitLen_half x h0 h]
    by_cases h1 : x / 2 = 0
    · have hx : x = 1 := by omega
      subst hx
      have : Lib.bitLen (1 / 2) = 0 := by decide
      rw [this]
      decide
    · obtain ⟨i1, i2, i3⟩ := ih (x / 2) (by omega) h1 (by omega)
      refine ⟨by omega, ?_, ?_⟩
      · have e : 2 ^ (1 + Lib.bitLen (x / 2) - 1) = 2 * 2 ^ (Lib.bitLen (x / 2) - 1) := by
          rw [← Nat.pow_succ']
          congr 1
          omega
        omega
      · have e : 2 ^ (1 + Lib.bitLen (x / 2)) = 2 * 2 ^ Lib.bitLen (x / 2) := by
          rw [Nat.add_comm, Nat.pow_succ']
        omega
end Go.Kq
