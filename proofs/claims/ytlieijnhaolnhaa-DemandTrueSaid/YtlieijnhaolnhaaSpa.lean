/- spans: absolute values, products of two words and a sign, and their order. -/
import Derived.Test.YtlieijnhaolnhaaProg
import Derived.Test.YtlieijnhaolnhaaLibKp
import Derived.Test.YtlieijnhaolnhaaLibSpan
import Derived.Test.YtlieijnhaolnhaaLayBits
import Derived.KernelRfl
import Derived.WalkKit
import Derived.Lib.Hide
import Derived.Shelf.Bits.Mul64
import Derived.Laws.StructEq
namespace Go.Proofs.Ytlieijnhaolnhaa
open Go.RowKit Go.Kq

/-- A number of two words and a sign. -/
def lgV (v : Int) : Value := .agg #[.bool (decide (v < 0)), .int .u64 ((v.natAbs / 18446744073709551616 : Nat) : Int), .int .u64 ((v.natAbs % 18446744073709551616 : Nat) : Int)]
set_option maxHeartbeats 1000000 in
theorem size_any (n : Int) (w : World) (h1 : -9223372036854775807 ≤ n) (h2 : n ≤ 9223372036854775807) :
    Calls Try.prog 87 #[.int .i64 n] w fun e w' => e = .returned (.int .u64 ((n.natAbs : Nat) : Int)) ∧ w' = w := by
  by_cases hn : n < 0
  · have e : ((n.natAbs : Nat) : Int) = -n := by omega
    rw [e]
    go_enter Try.func87, Try.ntmps87
    go_wp2
    all_goals
      go_ret
      refine ⟨?_, rfl⟩
      congr 2
      try (rw [IntKind.wrap_u64]; omega)
  · have e : ((n.natAbs : Nat) : Int) = n := by omega
    rw [e]
    go_enter Try.func87, Try.ntmps87
    go_wp2
    all_goals
      go_ret
      refine ⟨?_, rfl⟩
      congr 2
      try (rw [IntKind.wrap_u64]; omega)
theorem number_any (n : Int) (w : World) : Calls Try.prog 52 #[.int .i64 n] w fun e w' => e = .returned (.bool (fits n)) ∧ w' = w := by
  unfold fits M62
  go_enter Try.func52, Try.ntmps52
  go_wp2
  all_goals
    go_ret
    refine ⟨ret_bool ?_, rfl⟩
    first | (simp [*]; done) | (simp; omega)
theorem or_zero {a b : Nat} : a ||| b = 0 ↔ a = 0 ∧ b = 0 := Nat.or_eq_zero_iff
theorem mul_neg_iff {a b : Int} (h : a * b ≠ 0) : (a * b < 0) ↔ ¬ ((a < 0) ↔ (b < 0)) := by
  rcases Int.lt_trichotomy a 0 with ha | ha | ha
  · rcases Int.lt_trichotomy b 0 with hb | hb | hb
    · have := Int.mul_pos_of_neg_of_neg ha hb
      constructor <;> intro h1 <;> omega
    · rw [hb] at h
      simp at h
    · have := Int.mul_neg_of_neg_of_pos ha hb
      constructor <;> intro h1 <;> omega
  · rw [ha] at h
    simp at h
  · rcases Int.lt_trichotomy b 0 with hb | hb | hb
    · have := Int.mul_neg_of_pos_of_neg ha hb
      constructor <;> intro h1 <;> omega
    · rw [hb] at h
      simp at h
    · have := Int.mul_pos ha hb
      constructor <;> intro h1 <;> omega
set_option maxHeartbeats 2000000 in
theorem times_any (a b : Int) (w : World) (ha1 : -9223372036854775807 ≤ a) (ha2 : a ≤ 9223372036854775807) (hb1 : -9223372036854775807 ≤ b) (hb2 : b ≤ 9223372036854775807) :
    Calls Try.prog 54 #[.int .i64 a, .int .i64 b] w fun e w' => e = .returned (lgV (a * b)) ∧ Kp No w w' := by
  obtain ⟨m, hm⟩ : ∃ m, a.natAbs * b.natAbs = m := ⟨_, rfl⟩
  have hmm : (a * b).natAbs = m := by rw [Int.natAbs_mul, hm]
  have hmul := fun w0 => Any.bits_Mul64 mul64 a.natAbs b.natAbs (by omega) (by omega) w0
  change ∀ w0, Calls Try.prog 86 _ _ _ at hmul
  rw [hm] at hmul
  have hmb : m < 18446744073709551616 * 18446744073709551616 := by
    rw [← hm]
    exact Nat.mul_lt_mul'' (by omega) (by omega)
  have hx : m / 18446744073709551616 < 18446744073709551616 := by omega
  have hy : m % 18446744073709551616 < 18446744073709551616 := by omega
  have hor : bits .or .u64 ((m / 18446744073709551616 : Nat) : Int) ((m % 18446744073709551616 : Nat) : Int) = (((m / 18446744073709551616) ||| (m % 18446744073709551616) : Nat) : Int) := bits_or_u64_nat _ _ hx hy
  have hoz : (m / 18446744073709551616 ||| m % 18446744073709551616) = 0 ↔ m = 0 := by
    rw [or_zero]
    omega
  have hmz : m = 0 ↔ a * b = 0 := by rw [← hmm]; omega
  have hres : lgV (a * b) = .agg #[.bool (decide (a * b < 0)), .int .u64 ((m / 18446744073709551616 : Nat) : Int), .int .u64 ((m % 18446744073709551616 : Nat) : Int)] := by unfold lgV; rw [hmm]
  rw [hres]
  have HM := Lib.hid hmul
  clear hmul hres hmm hm hmb
  generalize m / 18446744073709551616 = hi at *
  generalize m % 18446744073709551616 = lo at *
  have HZ := Lib.hid (hoz.trans hmz)
  clear hoz hmz
  generalize hi ||| lo = o at *
  have HO := Lib.hid hor
  clear hor
  have HN := Lib.hid (@mul_neg_iff a b)
  generalize a * b = p at *
  have hs : decide (p < 0) = ((decide (a < 0) != decide (b < 0)) && !decide (o = 0)) := by
    by_cases hO : o = 0
    · have := HZ.out.1 hO
      simp [this, hO]
    · have hp : p ≠ 0 := fun h => hO (HZ.out.2 h)
      have h3 := HN.out hp
      have hO2 : decide (o = 0) = false := decide_eq_false hO
      rw [hO2]
      by_cases hA : a < 0 <;> by_cases hB : b < 0
      · rw [decide_eq_false (show ¬ p < 0 by omega), decide_eq_true hA, decide_eq_true hB]; rfl
      · rw [decide_eq_true (show p < 0 by omega), decide_eq_true hA, decide_eq_false hB]; rfl
      · rw [decide_eq_true (show p < 0 by omega), decide_eq_false hA, decide_eq_true hB]; rfl
      · rw [decide_eq_false (show ¬ p < 0 by omega), decide_eq_false hA, decide_eq_false hB]; rfl
  rw [hs]
  clear hs HZ HN
  have hor := HO.out
  by_cases hA : a < 0 <;> by_cases hB : b < 0 <;> by_cases hO : o = 0
  all_goals
    have hO' : ((o : Int) == 0) = decide (o = 0) := by rw [Bool.eq_iff_iff]; simp
    simp only [hA, hB, hO, decide_true, decide_false] at hO' ⊢
    go_enter Try.func54, Try.ntmps54
    go_wp2_with fail
    refine (size_any a _ (by omega) (by omega)).mono ?_
    rintro e w1 ⟨rfl, rfl⟩
    go_wp2_with fail
    refine (size_any b _ (by omega) (by omega)).mono ?_
    rintro e w1 ⟨rfl, rfl⟩
    go_wp2_with fail
    refine (HM.out _).mono ?_
    rintro e w1 ⟨rfl, rfl⟩
    go_wp2_with fail
    refine bodyPost_ret (by first | (simp [results, Try.results54, go_sem, hA, hB, hO]; done) | (simp [results, Try.results54, go_sem, hA, hB, hO]; omega)) rfl ⟨rfl, ?_⟩
    exact Kp.alloc _ _ _
end Go.Proofs.Ytlieijnhaolnhaa
