/- Chapter 09: values and cells of cuts, plates and spots; the first place at which a test holds. · Intervals of whole numbers: floors, ceilings, spans, roots: plain. No program in sight. · Chapter 09: the library's functions at this dump, as their contracts want them (printed by lay.py). · spans: absolute values, products of two words and a sign, and their order. -/
import Derived.WalkKit
import Derived.Shelf.Lays
import Derived.Ground.NamesProg
import Derived.Shelf.SlGeneric
import Derived.Test.YtamjhpdgclbfgaaProg
import Derived.KernelRfl
import Derived.Lib.Hide
import Derived.Shelf.Bits.Mul64
import Derived.Laws.StructEq
import Derived.Test.YtamjhpdgclbfgaaXLibHvM
import Derived.Test.YtamjhpdgclbfgaaXLibRowM
namespace Go.Proofs.Ytamjhpdgclbfgaa
open Go.RowKit Go.Kq

def Ct.cells (c : Ct) : List Value := [.int .i64 c.w, .int .i64 c.h]
def Ct.val (c : Ct) : Value := .agg #[.int .i64 c.w, .int .i64 c.h]
def Pt.cells (c : Pt) : List Value := [.int .i64 c.w, .int .i64 c.h, .int .i64 c.k]
def Pt.val (c : Pt) : Value := .agg #[.int .i64 c.w, .int .i64 c.h, .int .i64 c.k]
def Spo.cells (c : Spo) : List Value := [.int .i64 c.p, .int .i64 c.s, .int .i64 c.x, .int .i64 c.y]
def Spo.val (c : Spo) : Value := .agg #[.int .i64 c.p, .int .i64 c.s, .int .i64 c.x, .int .i64 c.y]
def i64V (x : Int) : Value := .int .i64 x
theorem ct_len (c : Ct) : c.cells.length = 2 := rfl
theorem spo_len (c : Spo) : c.cells.length = 4 := rfl
abbrev RdC (w : World) (A : Option Addr) (n : Nat) (l : List Ct) : Prop := Rd Ct.cells 2 w A n l
abbrev RdS (w : World) (A : Option Addr) (n : Nat) (l : List Spo) : Prop := Rd Spo.cells 4 w A n l
theorem any_take_succ {α : Type} (p : α → Bool) (l : List α) (k : Nat) (v : α) (h : l[k]? = some v) : (l.take (k + 1)).any p = ((l.take k).any p || p v) := by
  rw [List.take_add_one, h]
  simp
theorem firstI_le {α : Type} (p : α → Bool) : ∀ l : List α, firstI p l ≤ l.length
  | [] => Nat.le_refl _
  | a :: l => by
    have := firstI_le p l
    simp only [firstI, List.length_cons]
    split <;> omega
theorem firstI_at {α : Type} {p : α → Bool} : ∀ {l : List α} {k : Nat} {v : α}, (l.take k).any p = false → l[k]? = some v → p v = true → firstI p l = k
  | [], _, _, _, h, _ => by simp at h
  | a :: l, 0, v, _, h, hp => by
    simp at h
    subst h
    simp [firstI, hp]
  | a :: l, k + 1, v, hn, h, hp => by
    simp only [List.take_succ_cons, List.any_cons, Bool.or_eq_false_iff] at hn
    simp only [firstI, hn.1]
    rw [firstI_at hn.2 (by simpa using h) hp]
    rfl
theorem firstI_none {α : Type} {p : α → Bool} : ∀ {l : List α}, l.any p = false → firstI p l = l.length
  | [], _ => rfl
  | a :: l, h => by
    simp only [List.any_cons, Bool.or_eq_false_iff] at h
    simp only [firstI, h.1, firstI_none h.2]
    rfl
theorem firstI_some {α : Type} {p : α → Bool} : ∀ {l : List α}, l.any p = true → firstI p l < l.length
  | [], h => by simp at h
  | a :: l, h => by
    simp only [firstI]
    cases ha : p a
    · have := firstI_some (p := p) (l := l) (by simpa [ha] using h)
      simp
      omega
    · simp
def ixI {α : Type} (p : α → Bool) (l : List α) : Int := if firstI p l < l.length then (firstI p l : Nat) else -1
theorem ixI_at {α : Type} {p : α → Bool} {l : List α} {k : Nat} {v : α} (h : (l.take k).any p = false) (hv : l[k]? = some v) (hp : p v = true) : ixI p l = (k : Nat) := by
  have := firstI_at h hv hp
  unfold ixI
  rw [this, if_pos (List.getElem?_eq_some_iff.1 hv).1]
theorem ixI_none {α : Type} {p : α → Bool} {l : List α} (h : l.any p = false) : ixI p l = -1 := by
  unfold ixI
  rw [firstI_none h, if_neg (by omega)]
theorem ixI_any {α : Type} (p : α → Bool) (l : List α) : decide (0 ≤ ixI p l) = l.any p := by
  unfold ixI
  cases h : l.any p
  · rw [firstI_none h, if_neg (by omega)]
    rfl
  · rw [if_pos (firstI_some h), decide_eq_true_eq]
    omega
end Go.Proofs.Ytamjhpdgclbfgaa

namespace Go.Kq

/-- v / d rounded down or up. -/
def rnd (up : Bool) (v d : Int) : Int := if up then -((-v) / d) else v / d
/-- What the absolute value gives, rounded so. -/
def rndA (up neg : Bool) (m d : Nat) : Nat := m / d + if m % d ≠ 0 ∧ up ≠ neg then 1 else 0
theorem neg_div {m d : Nat} (hd : 0 < d) : (-(m : Int)) / (d : Int) = -((m / d + if m % d ≠ 0 then 1 else 0 : Nat) : Int) := by
  have h1 : (m : Int) = d * ((m / d : Nat) : Int) + ((m % d : Nat) : Int) := by
    have := Nat.div_add_mod m d
    rw [← Int.natCast_mul, ← Int.natCast_add, this]
  have h2 : ((m % d : Nat) : Int) < d := by have := Nat.mod_lt m hd; omega
  have hd' : (0 : Int) < (d : Int) := by omega
  by_cases h : m % d = 0
  · rw [h] at h1
    rw [if_neg (by simp [h])]
    refine Int.ediv_eq_of_eq_mul_right (by omega) ?_
    rw [h1, Int.mul_neg]
    simp
  · rw [if_pos h]
    have e : (-(m : Int)) = (d - ((m % d : Nat) : Int)) + d * (-((m / d + 1 : Nat) : Int)) := by
      rw [Int.mul_neg, show ((m / d + 1 : Nat) : Int) = ((m / d : Nat) : Int) + 1 by omega, Int.mul_add]
      omega
    rw [e, Int.add_mul_ediv_left _ _ (by omega), Int.ediv_eq_zero_of_lt (by omega) (by omega)]
    omega
theorem rnd_abs (up : Bool) (v : Int) {d : Nat} (hd : 0 < d) : rnd up v d = if v < 0 then -((rndA up true v.natAbs d : Nat) : Int) else ((rndA up false v.natAbs d : Nat) : Int) := by
  unfold rnd rndA
  by_cases hv : v < 0
  · have e : v = -(v.natAbs : Int) := by omega
    cases up
    · rw [if_neg (by simp), if_pos hv, e, neg_div hd]
      simp
    · rw [if_pos rfl, if_pos hv]
      have e2 : -v = (v.natAbs : Int) := by omega
      rw [e2]
      simp
  · have e : v = (v.natAbs : Int) := by omega
    cases up
    · rw [if_neg (by simp), if_neg hv, e]
      simp
    · rw [if_pos rfl, if_neg hv, e, neg_div hd]
      simp
def M62 : Int := 4611686018427387904
/-- A quotient that is allowed. -/
def fits (q : Int) : Bool := decide (-M62 ≤ q) && decide (q ≤ M62)
def minL : Int → List Int → Int
  | x, [] => x
  | x, y :: l => minL (if y < x then y else x) l
def maxL : Int → List Int → Int
  | x, [] => x
  | x, y :: l => maxL (if x < y then y else x) l
/-- An interval, and an error. -/
abbrev IvE := Int × Int × Int
def spanV (d : Int) (x : Int) (l : List Int) : IvE :=
  if fits (rnd false (minL x l) d) && fits (rnd true (maxL x l) d) then (rnd false (minL x l) d, rnd true (maxL x l) d, 0) else (0, 0, 7)
end Go.Kq

namespace Go.Proofs.Ytamjhpdgclbfgaa
open Go.Shelf
def mul64_ren : Go.Shelf.Ren := ⟨fun | 264 => 99 | n => n, fun | 53 => 115 | 46 => 109 | n => n, fun | n => n⟩
theorem mul64 : Go.Proofs.Lays.n264 Try.prog mul64_ren := {
  mixed := by kernel_rfl
  f264 := Try.func99.trans (congrArg some (by kernel_rfl))
  t46 := Try.underlying109
  a46 := Try.isAgg109
  z46 := Try.sizeOf109
  v46 := Try.zeroValue109
  t53 := Try.underlying115
  a53 := Try.isAgg115
  z53 := Try.sizeOf115
  v53 := Try.zeroValue115 }
def lead64_ren : Go.Shelf.Ren := ⟨fun | 134 => 118 | 129 => 95 | n => n, fun | 53 => 115 | 3 => 3 | 4 => 4 | 46 => 109 | 5 => 5 | 9 => 9 | n => n, fun | n => n⟩
theorem lead64 : Go.Proofs.Lays.n134 Try.prog lead64_ren := {
  mixed := by kernel_rfl
  f129 := Try.func95.trans (congrArg some (by kernel_rfl))
  f134 := Try.func118.trans (congrArg some (by kernel_rfl))
  t3 := Try.underlying3
  a3 := Try.isAgg3
  z3 := Try.sizeOf3
  v3 := Try.zeroValue3
  t4 := Try.underlying4
  a4 := Try.isAgg4
  z4 := Try.sizeOf4
  v4 := Try.zeroValue4
  t5 := Try.underlying5
  a5 := Try.isAgg5
  z5 := Try.sizeOf5
  v5 := Try.zeroValue5
  t9 := Try.underlying9
  a9 := Try.isAgg9
  z9 := Try.sizeOf9
  v9 := Try.zeroValue9
  t46 := Try.underlying109
  a46 := Try.isAgg109
  z46 := Try.sizeOf109
  v46 := Try.zeroValue109
  t53 := Try.underlying115
  a53 := Try.isAgg115
  z53 := Try.sizeOf115
  v53 := Try.zeroValue115 }
end Go.Proofs.Ytamjhpdgclbfgaa

namespace Go.Proofs.Ytamjhpdgclbfgaa
open Go.RowKit Go.Kq

/-- A number of two words and a sign. -/
def lgV (v : Int) : Value := .agg #[.bool (decide (v < 0)), .int .u64 ((v.natAbs / 18446744073709551616 : Nat) : Int), .int .u64 ((v.natAbs % 18446744073709551616 : Nat) : Int)]
set_option maxHeartbeats 1000000 in
theorem size_any (n : Int) (w : World) (h1 : -9223372036854775807 ≤ n) (h2 : n ≤ 9223372036854775807) :
    Calls Try.prog 100 #[.int .i64 n] w fun e w' => e = .returned (.int .u64 ((n.natAbs : Nat) : Int)) ∧ w' = w := by
  by_cases hn : n < 0
  · have e : ((n.natAbs : Nat) : Int) = -n := by omega
    rw [e]
    go_enter Try.func100, Try.ntmps100
    go_wp2
    all_goals
      go_ret
      refine ⟨?_, rfl⟩
      congr 2
      try (rw [IntKind.wrap_u64]; omega)
  · have e : ((n.natAbs : Nat) : Int) = n := by omega
    rw [e]
    go_enter Try.func100, Try.ntmps100
    go_wp2
    all_goals
      go_ret
      refine ⟨?_, rfl⟩
      congr 2
      try (rw [IntKind.wrap_u64]; omega)
theorem number_any (n : Int) (w : World) : Calls Try.prog 75 #[.int .i64 n] w fun e w' => e = .returned (.bool (fits n)) ∧ w' = w := by
  unfold fits M62
  go_enter Try.func75, Try.ntmps75
  go_wp2
  all_goals
    go_ret
    refine ⟨ret_bool ?_, rfl⟩
    first | (simp [*]; done) | (simp; omega)
theorem or_zero {a b : Nat} : a ||| b = 0 ↔ a = 0 ∧ b = 0 := Nat.or_eq_zero_iff
theorem mul_neg_iff {a b : Int} (h : a * b ≠ 0) : (a * b < 0) ↔ ¬ ((a < 0) ↔ (b < 0)) := by
  rcases Int.lt_trichotomy a 0 with ha | ha | ha
  · rcases Int.lt_trichotomy b 0 with hb | hb | hb
    · have := Int.mul_pos_of_neg_of_neg ha hb
      constructor <;> intro h1 <;> omega
    · rw [hb] at h
      simp at h
    · have := Int.mul_neg_of_neg_of_pos ha hb
      constructor <;> intro h1 <;> omega
  · rw [ha] at h
    simp at h
  · rcases Int.lt_trichotomy b 0 with hb | hb | hb
    · have := Int.mul_neg_of_pos_of_neg ha hb
      constructor <;> intro h1 <;> omega
    · rw [hb] at h
      simp at h
    · have := Int.mul_pos ha hb
      constructor <;> intro h1 <;> omega
set_option maxHeartbeats 2000000 in
theorem times_any (a b : Int) (w : World) (ha1 : -9223372036854775807 ≤ a) (ha2 : a ≤ 9223372036854775807) (hb1 : -9223372036854775807 ≤ b) (hb2 : b ≤ 9223372036854775807) :
    Calls Try.prog 72 #[.int .i64 a, .int .i64 b] w fun e w' => e = .returned (lgV (a * b)) ∧ Kp No w w' := by
  obtain ⟨m, hm⟩ : ∃ m, a.natAbs * b.natAbs = m := ⟨_, rfl⟩
  have hmm : (a * b).natAbs = m := by rw [Int.natAbs_mul, hm]
  have hmul := fun w0 => Any.bits_Mul64 mul64 a.natAbs b.natAbs (by omega) (by omega) w0
  change ∀ w0, Calls Try.prog 99 _ _ _ at hmul
  rw [hm] at hmul
  have hmb : m < 18446744073709551616 * 18446744073709551616 := by
    rw [← hm]
    exact Nat.mul_lt_mul'' (by omega) (by omega)
  have hx : m / 18446744073709551616 < 18446744073709551616 := by omega
  have hy : m % 18446744073709551616 < 18446744073709551616 := by omega
  have hor : bits .or .u64 ((m / 18446744073709551616 : Nat) : Int) ((m % 18446744073709551616 : Nat) : Int) = (((m / 18446744073709551616) ||| (m % 18446744073709551616) : Nat) : Int) := bits_or_u64_nat _ _ hx hy
  have hoz : (m / 18446744073709551616 ||| m % 18446744073709551616) = 0 ↔ m = 0 := by
    rw [or_zero]
    omega
  have hmz : m = 0 ↔ a * b = 0 := by rw [← hmm]; omega
  have hres : lgV (a * b) = .agg #[.bool (decide (a * b < 0)), .int .u64 ((m / 18446744073709551616 : Nat) : Int), .int .u64 ((m % 18446744073709551616 : Nat) : Int)] := by unfold lgV; rw [hmm]
  rw [hres]
  have HM := Lib.hid hmul
  clear hmul hres hmm hm hmb
  generalize m / 18446744073709551616 = hi at *
  generalize m % 18446744073709551616 = lo at *
  have HZ := Lib.hid (hoz.trans hmz)
  clear hoz hmz
  generalize hi ||| lo = o at *
  have HO := Lib.hid hor
  clear hor
  have HN := Lib.hid (@mul_neg_iff a b)
  generalize a * b = p at *
  have hs : decide (p < 0) = ((decide (a < 0) != decide (b < 0)) && !decide (o = 0)) := by
    by_cases hO : o = 0
    · have := HZ.out.1 hO
      simp [this, hO]
    · have hp : p ≠ 0 := fun h => hO (HZ.out.2 h)
      have h3 := HN.out hp
      have hO2 : decide (o = 0) = false := decide_eq_false hO
      rw [hO2]
      by_cases hA : a < 0 <;> by_cases hB : b < 0
      · rw [decide_eq_false (show ¬ p < 0 by omega), decide_eq_true hA, decide_eq_true hB]; rfl
      · rw [decide_eq_true (show p < 0 by omega), decide_eq_true hA, decide_eq_false hB]; rfl
      · rw [decide_eq_true (show p < 0 by omega), decide_eq_false hA, decide_eq_true hB]; rfl
      · rw [decide_eq_false (show ¬ p < 0 by omega), decide_eq_false hA, decide_eq_false hB]; rfl
  rw [hs]
  clear hs HZ HN
  have hor := HO.out
  by_cases hA : a < 0 <;> by_cases hB : b < 0 <;> by_cases hO : o = 0
  all_goals
    have hO' : ((o : Int) == 0) = decide (o = 0) := by rw [Bool.eq_iff_iff]; simp
    simp only [hA, hB, hO, decide_true, decide_false] at hO' ⊢
    go_enter Try.func72, Try.ntmps72
    go_wp2_with fail
    refine (size_any a _ (by omega) (by omega)).mono ?_
    rintro e w1 ⟨rfl, rfl⟩
    go_wp2_with fail
    refine (size_any b _ (by omega) (by omega)).mono ?_
    rintro e w1 ⟨rfl, rfl⟩
    go_wp2_with fail
    refine (HM.out _).mono ?_
    rintro e w1 ⟨rfl, rfl⟩
    go_wp2_with fail
    refine bodyPost_ret (by first | (simp [results, Try.results72, go_sem, hA, hB, hO]; done) | (simp [results, Try.results72, go_sem, hA, hB, hO]; omega)) rfl ⟨rfl, ?_⟩
    exact Kp.alloc _ _ _
end Go.Proofs.Ytamjhpdgclbfgaa
