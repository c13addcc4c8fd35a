/- Intervals of whole numbers: floors, ceilings, spans, roots: plain. No program in sight. · Chapter 09: the library's functions at this dump, as their contracts want them (printed by lay.py). · spans: absolute values, products of two words and a sign, and their order. · Guarded operations in a region that draws its order: run or passed over. No program in sight. · Values that a region draws and holds, with facts of the world: invariants for wp_region_each. No program in sight. · Boxes that a region makes and fills in whatever order: an invariant for wp_region_each. No program in sight. -/
import Derived.WalkKit
import Derived.Shelf.Lays
import Derived.Ground.NamesProg
import Derived.Shelf.SlGeneric
import Derived.Test.YtamjhpdgclbfgaaGreatProg
import Derived.KernelRfl
import Derived.Lib.Hide
import Derived.Shelf.Bits.Mul64
import Derived.Laws.StructEq
import Derived.Test.YtamjhpdgclbfgaaGreatXLibMakeM
import Derived.Test.YtamjhpdgclbfgaaGreatXLibReg
namespace Go.Kq

/-- v / d rounded down or up. -/
def rnd (up : Bool) (v d : Int) : Int := if up then -((-v) / d) else v / d
/-- What the absolute value gives, rounded so. -/
def rndA (up neg : Bool) (m d : Nat) : Nat := m / d + if m % d ≠ 0 ∧ up ≠ neg then 1 else 0
theorem neg_div {m d : Nat} (hd : 0 < d) : (-(m : Int)) / (d : Int) = -((m / d + if m % d ≠ 0 then 1 else 0 : Nat) : Int) := by
  have h1 : (m : Int) = d * ((m / d : Nat) : Int) + ((m % d : Nat) : Int) := by
    have := Nat.div_add_mod m d
    rw [← Int.natCast_mul, ← Int.natCast_add, this]
  have h2 : ((m % d : Nat) : Int) < d := by have := Nat.mod_lt m hd; omega
  have hd' : (0 : Int) < (d : Int) := by omega
  by_cases h : m % d = 0
  · rw [h] at h1
    rw [if_neg (by simp [h])]
    refine Int.ediv_eq_of_eq_mul_right (by omega) ?_
    rw [h1, Int.mul_neg]
    simp
  · rw [if_pos h]
    have e : (-(m : Int)) = (d - ((m % d : Nat) : Int)) + d * (-((m / d + 1 : Nat) : Int)) := by
      rw [Int.mul_neg, show ((m / d + 1 : Nat) : Int) = ((m / d : Nat) : Int) + 1 by omega, Int.mul_add]
      omega
    rw [e, Int.add_mul_ediv_left _ _ (by omega), Int.ediv_eq_zero_of_lt (by omega) (by omega)]
    omega
theorem rnd_abs (up : Bool) (v : Int) {d : Nat} (hd : 0 < d) : rnd up v d = if v < 0 then -((rndA up true v.natAbs d : Nat) : Int) else ((rndA up false v.natAbs d : Nat) : Int) := by
  unfold rnd rndA
  by_cases hv : v < 0
  · have e : v = -(v.natAbs : Int) := by omega
    cases up
    · rw [if_neg (by simp), if_pos hv, e, neg_div hd]
      simp
    · rw [if_pos rfl, if_pos hv]
      have e2 : -v = (v.natAbs : Int) := by omega
      rw [e2]
      simp
  · have e : v = (v.natAbs : Int) := by omega
    cases up
    · rw [if_neg (by simp), if_neg hv, e]
      simp
    · rw [if_pos rfl, if_neg hv, e, neg_div hd]
      simp
def M62 : Int := 4611686018427387904
/-- A quotient that is allowed. -/
def fits (q : Int) : Bool := decide (-M62 ≤ q) && decide (q ≤ M62)
def minL : Int → List Int → Int
  | x, [] => x
  | x, y :: l => minL (if y < x then y else x) l
def maxL : Int → List Int → Int
  | x, [] => x
  | x, y :: l => maxL (if x < y then y else x) l
/-- An interval, and an error. -/
abbrev IvE := Int × Int × Int
def spanV (d : Int) (x : Int) (l : List Int) : IvE :=
  if fits (rnd false (minL x l) d) && fits (rnd true (maxL x l) d) then (rnd false (minL x l) d, rnd true (maxL x l) d, 0) else (0, 0, 7)
end Go.Kq

namespace Go.Proofs.YtamjhpdgclbfgaaGreat
open Go.Shelf
def mul64_ren : Go.Shelf.Ren := ⟨fun | 264 => 66 | n => n, fun | 53 => 65 | 46 => 134 | n => n, fun | n => n⟩
theorem mul64 : Go.Proofs.Lays.n264 Tryz.prog mul64_ren := {
  mixed := by kernel_rfl
  f264 := Tryz.func66.trans (congrArg some (by kernel_rfl))
  t46 := Tryz.underlying134
  a46 := Tryz.isAgg134
  z46 := Tryz.sizeOf134
  v46 := Tryz.zeroValue134
  t53 := Tryz.underlying65
  a53 := Tryz.isAgg65
  z53 := Tryz.sizeOf65
  v53 := Tryz.zeroValue65 }
def lead64_ren : Go.Shelf.Ren := ⟨fun | 134 => 93 | 129 => 111 | n => n, fun | 53 => 65 | 3 => 3 | 4 => 4 | 46 => 134 | 5 => 5 | 9 => 9 | n => n, fun | n => n⟩
theorem lead64 : Go.Proofs.Lays.n134 Tryz.prog lead64_ren := {
  mixed := by kernel_rfl
  f129 := Tryz.func111.trans (congrArg some (by kernel_rfl))
  f134 := Tryz.func93.trans (congrArg some (by kernel_rfl))
  t3 := Tryz.underlying3
  a3 := Tryz.isAgg3
  z3 := Tryz.sizeOf3
  v3 := Tryz.zeroValue3
  t4 := Tryz.underlying4
  a4 := Tryz.isAgg4
  z4 := Tryz.sizeOf4
  v4 := Tryz.zeroValue4
  t5 := Tryz.underlying5
  a5 := Tryz.isAgg5
  z5 := Tryz.sizeOf5
  v5 := Tryz.zeroValue5
  t9 := Tryz.underlying9
  a9 := Tryz.isAgg9
  z9 := Tryz.sizeOf9
  v9 := Tryz.zeroValue9
  t46 := Tryz.underlying134
  a46 := Tryz.isAgg134
  z46 := Tryz.sizeOf134
  v46 := Tryz.zeroValue134
  t53 := Tryz.underlying65
  a53 := Tryz.isAgg65
  z53 := Tryz.sizeOf65
  v53 := Tryz.zeroValue65 }
end Go.Proofs.YtamjhpdgclbfgaaGreat

namespace Go.Proofs.YtamjhpdgclbfgaaGreat
open Go.RowKit Go.Kq

/-- A number of two words and a sign. -/
def lgV (v : Int) : Value := .agg #[.bool (decide (v < 0)), .int .u64 ((v.natAbs / 18446744073709551616 : Nat) : Int), .int .u64 ((v.natAbs % 18446744073709551616 : Nat) : Int)]
set_option maxHeartbeats 1000000 in
theorem size_any (n : Int) (w : World) (h1 : -9223372036854775807 ≤ n) (h2 : n ≤ 9223372036854775807) :
    Calls Tryz.prog 67 #[.int .i64 n] w fun e w' => e = .returned (.int .u64 ((n.natAbs : Nat) : Int)) ∧ w' = w := by
  by_cases hn : n < 0
  · have e : ((n.natAbs : Nat) : Int) = -n := by omega
    rw [e]
    go_enter Tryz.func67, Tryz.ntmps67
    go_wp2
    all_goals
      go_ret
      refine ⟨?_, rfl⟩
      congr 2
      try (rw [IntKind.wrap_u64]; omega)
  · have e : ((n.natAbs : Nat) : Int) = n := by omega
    rw [e]
    go_enter Tryz.func67, Tryz.ntmps67
    go_wp2
    all_goals
      go_ret
      refine ⟨?_, rfl⟩
      congr 2
      try (rw [IntKind.wrap_u64]; omega)
theorem number_any (n : Int) (w : World) : Calls Tryz.prog 44 #[.int .i64 n] w fun e w' => e = .returned (.bool (fits n)) ∧ w' = w := by
  unfold fits M62
  go_enter Tryz.func44, Tryz.ntmps44
  go_wp2
  all_goals
    go_ret
    refine ⟨ret_bool ?_, rfl⟩
    first | (simp [*]; done) | (simp; omega)
theorem or_zero {a b : Nat} : a ||| b = 0 ↔ a = 0 ∧ b = 0 := Nat.or_eq_zero_iff
theorem mul_neg_iff {a b : Int} (h : a * b ≠ 0) : (a * b < 0) ↔ ¬ ((a < 0) ↔ (b < 0)) := by
  rcases Int.lt_trichotomy a 0 with ha | ha | ha
  · rcases Int.lt_trichotomy b 0 with hb | hb | hb
    · have := Int.mul_pos_of_neg_of_neg ha hb
      constructor <;> intro h1 <;> omega
    · rw [hb] at h
      simp at h
    · have := Int.mul_neg_of_neg_of_pos ha hb
      constructor <;> intro h1 <;> omega
  · rw [ha] at h
    simp at h
  · rcases Int.lt_trichotomy b 0 with hb | hb | hb
    · have := Int.mul_neg_of_pos_of_neg ha hb
      constructor <;> intro h1 <;> omega
    · rw [hb] at h
      simp at h
    · have := Int.mul_pos ha hb
      constructor <;> intro h1 <;> omega
set_option maxHeartbeats 2000000 in
theorem times_any (a b : Int) (w : World) (ha1 : -9223372036854775807 ≤ a) (ha2 : a ≤ 9223372036854775807) (hb1 : -9223372036854775807 ≤ b) (hb2 : b ≤ 9223372036854775807) :
    Calls Tryz.prog 37 #[.int .i64 a, .int .i64 b] w fun e w' => e = .returned (lgV (a * b)) ∧ Kp No w w' := by
  obtain ⟨m, hm⟩ : ∃ m, a.natAbs * b.natAbs = m := ⟨_, rfl⟩
  have hmm : (a * b).natAbs = m := by rw [Int.natAbs_mul, hm]
  have hmul := fun w0 => Any.bits_Mul64 mul64 a.natAbs b.natAbs (by omega) (by omega) w0
  change ∀ w0, Calls Tryz.prog 66 _ _ _ at hmul
  rw [hm] at hmul
  have hmb : m < 18446744073709551616 * 18446744073709551616 := by
    rw [← hm]
    exact Nat.mul_lt_mul'' (by omega) (by omega)
  have hx : m / 18446744073709551616 < 18446744073709551616 := by omega
  have hy : m % 18446744073709551616 < 18446744073709551616 := by omega
  have hor : bits .or .u64 ((m / 18446744073709551616 : Nat) : Int) ((m % 18446744073709551616 : Nat) : Int) = (((m / 18446744073709551616) ||| (m % 18446744073709551616) : Nat) : Int) := bits_or_u64_nat _ _ hx hy
  have hoz : (m / 18446744073709551616 ||| m % 18446744073709551616) = 0 ↔ m = 0 := by
    rw [or_zero]
    omega
  have hmz : m = 0 ↔ a * b = 0 := by rw [← hmm]; omega
  have hres : lgV (a * b) = .agg #[.bool (decide (a * b < 0)), .int .u64 ((m / 18446744073709551616 : Nat) : Int), .int .u64 ((m % 18446744073709551616 : Nat) : Int)] := by unfold lgV; rw [hmm]
  rw [hres]
  have HM := Lib.hid hmul
  clear hmul hres hmm hm hmb
  generalize m / 18446744073709551616 = hi at *
  generalize m % 18446744073709551616 = lo at *
  have HZ := Lib.hid (hoz.trans hmz)
  clear hoz hmz
  generalize hi ||| lo = o at *
  have HO := Lib.hid hor
  clear hor
  have HN := Lib.hid (@mul_neg_iff a b)
  generalize a * b = p at *
  have hs : decide (p < 0) = ((decide (a < 0) != decide (b < 0)) && !decide (o = 0)) := by
    by_cases hO : o = 0
    · have := HZ.out.1 hO
      simp [this, hO]
    · have hp : p ≠ 0 := fun h => hO (HZ.out.2 h)
      have h3 := HN.out hp
      have hO2 : decide (o = 0) = false := decide_eq_false hO
      rw [hO2]
      by_cases hA : a < 0 <;> by_cases hB : b < 0
      · rw [decide_eq_false (show ¬ p < 0 by omega), decide_eq_true hA, decide_eq_true hB]; rfl
      · rw [decide_eq_true (show p < 0 by omega), decide_eq_true hA, decide_eq_false hB]; rfl
      · rw [decide_eq_true (show p < 0 by omega), decide_eq_false hA, decide_eq_true hB]; rfl
      · rw [decide_eq_false (show ¬ p < 0 by omega), decide_eq_false hA, decide_eq_false hB]; rfl
  rw [hs]
  clear hs HZ HN
  have hor := HO.out
  by_cases hA : a < 0 <;> by_cases hB : b < 0 <;> by_cases hO : o = 0
  all_goals
    have hO' : ((o : Int) == 0) = decide (o = 0) := by rw [Bool.eq_iff_iff]; simp
    simp only [hA, hB, hO, decide_true, decide_false] at hO' ⊢
    go_enter Tryz.func37, Tryz.ntmps37
    go_wp2_with fail
    refine (size_any a _ (by omega) (by omega)).mono ?_
    rintro e w1 ⟨rfl, rfl⟩
    go_wp2_with fail
    refine (size_any b _ (by omega) (by omega)).mono ?_
    rintro e w1 ⟨rfl, rfl⟩
    go_wp2_with fail
    refine (HM.out _).mono ?_
    rintro e w1 ⟨rfl, rfl⟩
    go_wp2_with fail
    refine bodyPost_ret (by first | (simp [results, Tryz.results37, go_sem, hA, hB, hO]; done) | (simp [results, Tryz.results37, go_sem, hA, hB, hO]; omega)) rfl ⟨rfl, ?_⟩
    exact Kp.alloc _ _ _
end Go.Proofs.YtamjhpdgclbfgaaGreat

namespace Go.Kq
open Go.RowKit

section
variable {P : Program} {Q : Exit → Act → World → Prop} {l : List Oper} {i j : Nat} {o x : Oper} {t : Tmp} {want b : Bool} {a : Act} {w : World} {K : Act → World → Prop}
theorem yielded_of (hj : l[j]? = some x) (hx : x.dst = some t) (hv : a.tmps.getD t undef = .bool b) : yielded l.toArray a.tmps j = some b := by
  have h1 : a.tmps[t]? = some (.bool b) := by
    cases h : a.tmps[t]? with
    | none =>
      rw [Array.getD_eq_getD_getElem?, h] at hv
      cases hv
    | some u =>
      rw [Array.getD_eq_getD_getElem?, h] at hv
      exact congrArg some hv
  have h2 : l.toArray[j]? = some x := by simpa using hj
  unfold yielded
  rw [h2]
  simp only [Option.bind_some, hx, h1]
theorem wpOp_run (ho : l[i]? = some o) (hg : o.guard = some (j, want)) (hj : l[j]? = some x) (hx : x.dst = some t) (hv : a.tmps.getD t undef = .bool want) (h : o.wp P a w K Q) : wpOp P l.toArray Q i K a w := by
  unfold wpOp
  have h2 : l.toArray[i]? = some o := by simpa using ho
  rw [h2]
  have h3 : Region.wanted o (yielded l.toArray a.tmps) = true := by
    unfold Region.wanted
    simp only [hg, yielded_of hj hx hv, beq_self_eq_true]
  simp only [h3, if_true]
  exact .inl h
theorem wpOp_skip (ho : l[i]? = some o) (hg : o.guard = some (j, want)) (hj : l[j]? = some x) (hx : x.dst = some t) (hv : a.tmps.getD t undef = .bool b) (hb : b ≠ want) (h : K (a.put o.dst undef) w) : wpOp P l.toArray Q i K a w := by
  unfold wpOp
  have h2 : l.toArray[i]? = some o := by simpa using ho
  rw [h2]
  have h3 : Region.wanted o (yielded l.toArray a.tmps) = false := by
    unfold Region.wanted
    simp only [hg, yielded_of hj hx hv]
    simpa using hb
  simp only [h3]
  exact h
/-- A slot that only one operation of the region writes, which has not run. -/
def onlyB (l : List Oper) (t : Tmp) (i : Nat) : Bool := (List.range l.length).all fun j => decide (j = i) || match l[j]? with
  | some o => match o.dst with
    | some d => decide (d ≠ t)
    | none => true
  | none => true
theorem Fr.evalLate {a0 : Act} {r : Nat → Option Value} (h : Fr l.toArray a0 r a) (t : Tmp) (i : Nat) (hf : onlyB l t i = true) (hr : r i = none) : a.tmps.getD t undef = a0.tmps.getD t undef := by
  have := h.rest t fun j o hj ho => by
    have hj' : l[j]? = some o := by simpa using hj
    have hlt := (List.getElem?_eq_some_iff.1 hj').1
    have h1 := List.all_eq_true.1 hf j (List.mem_range.2 hlt)
    rw [hj'] at h1
    simp only [ho] at h1
    by_cases e : j = i
    · rw [e]
      exact hr
    · simp [e] at h1
  simp [this]
end
end Go.Kq

namespace Go.Kq
open Go.RowKit

/-- Facts that outlive calls. -/
def Stab (F : Nat → World → Value → Prop) : Prop := ∀ i u w w', Kp No w w' → F i w u → F i w' u
/-- The world while a region runs that only calls and reads: F i w u is said of the result u of operation i. -/
structure HvW (base : World) (F : Nat → World → Value → Prop) (r : Nat → Option Value) (w : World) : Prop where
  kp : Kp No base w
  hv : ∀ i u, r i = some u → F i w u
section
variable {base w w' : World} {F : Nat → World → Value → Prop} {r : Nat → Option Value}
theorem HvW.start (base : World) (F : Nat → World → Value → Prop) : HvW base F (fun _ => none) base.drew := ⟨Kp.drew _ _, fun _ _ h => (by cases h)⟩
theorem HvW.upd (h : HvW base F r w) (i : Nat) (v : Value) (hf : F i w v) : HvW base F (Kq.upd r i v) w :=
  ⟨h.kp, fun j u hu => by
    by_cases e : j = i
    · subst e
      rw [upd_same] at hu
      cases hu
      exact hf
    · rw [upd_ne _ _ e] at hu
      exact h.hv j u hu⟩
theorem HvW.call (h : HvW base F r w) (hF : Stab F) (k : Kp No w w') : HvW base F r w' := ⟨h.kp.tr k, fun i u hu => hF i u w w' k (h.hv i u hu)⟩
end
/-- The same with one store into block B: operation st stores what operation src gave. -/
structure HvS (base : World) (B : Nat) (t : TypeId) (zero : Array Value) (st src : Nat) (F : Nat → World → Value → Prop) (r : Nat → Option Value) (w : World) : Prop where
  kp : Kp (One B) base w
  b0 : r st = none → w.heap[B]? = some (.cells zero t (0, 0))
  b1 : r st ≠ none → ∃ cs, r src = some (.agg cs) ∧ w.heap[B]? = some (.cells cs t (0, 0))
  hv : ∀ i u, r i = some u → F i w u
section
variable {base w w' : World} {B : Nat} {t : TypeId} {zero : Array Value} {st src : Nat} {F : Nat → World → Value → Prop} {r : Nat → Option Value}
theorem HvS.start (h : base.heap[B]? = some (.cells zero t (0, 0))) : HvS base B t zero st src F (fun _ => none) base.drew := ⟨Kp.drew _ _, fun _ => h, fun h => absurd rfl h, fun _ _ h => (by cases h)⟩
theorem HvS.upd (h : HvS base B t zero st src F r w) (i : Nat) (v : Value) (hr : r i = none) (hi : i ≠ st) (hf : F i w v) : HvS base B t zero st src F (Kq.upd r i v) w := by
  have e1 : Kq.upd r i v st = r st := upd_ne _ _ (fun e => hi e.symm)
  refine ⟨h.kp, by rw [e1]; exact h.b0, fun hs => ?_, fun j u hu => ?_⟩
  · rw [e1] at hs
    obtain ⟨cs, h1, h2⟩ := h.b1 hs
    exact ⟨cs, by rw [upd_ne _ _ (fun e => by rw [e, hr] at h1; cases h1)]; exact h1, h2⟩
  · by_cases e : j = i
    · subst e
      rw [upd_same] at hu
      cases hu
      exact hf
    · rw [upd_ne _ _ e] at hu
      exact h.hv j u hu
theorem HvS.call (h : HvS base B t zero st src F r w) (hF : Stab F) (k : Kp No w w') : HvS base B t zero st src F r w' :=
  ⟨h.kp.no k, fun hs => k.heap (h.b0 hs) id, fun hs => by
    obtain ⟨cs, h1, h2⟩ := h.b1 hs
    exact ⟨cs, h1, k.heap h2 id⟩, fun i u hu => hF i u w w' k (h.hv i u hu)⟩
theorem HvS.store (h : HvS base B t zero st src F r w) (hF : ∀ i u w w', Kp (One B) w w' → F i w u → F i w' u) (hne : src ≠ st) {cs : Array Value} (hu : r src = some (.agg cs)) (hk : Kp (One B) w w') (hh : w'.heap[B]? = some (.cells cs t (0, 0))) (v : Value) (hf : F st w' v) :
    HvS base B t zero st src F (Kq.upd r st v) w' := by
  refine ⟨h.kp.tr hk, fun hs => ?_, fun _ => ⟨cs, by rw [upd_ne _ _ hne]; exact hu, hh⟩, fun j u hj => ?_⟩
  · rw [upd_same] at hs
    cases hs
  · by_cases e : j = st
    · subst e
      rw [upd_same] at hj
      cases hj
      exact hf
    · rw [upd_ne _ _ e] at hj
      exact hF j u w w' hk (h.hv j u hj)
end
section
variable {P : Program} {Q : Exit → Act → World → Prop} {l : List Oper} {i j : Nat} {o x : Oper} {t : Tmp} {want : Bool} {a : Act} {w : World} {K : Act → World → Prop}
/-- An operation whose guard was itself passed over. -/
theorem wpOp_skipU (ho : l[i]? = some o) (hg : o.guard = some (j, want)) (hj : l[j]? = some x) (hx : x.dst = some t) (hv : a.tmps.getD t undef = undef) (h : K (a.put o.dst undef) w) : wpOp P l.toArray Q i K a w := by
  unfold wpOp
  have h2 : l.toArray[i]? = some o := by simpa using ho
  have h4 : l.toArray[j]? = some x := by simpa using hj
  rw [h2]
  have h3 : Region.wanted o (yielded l.toArray a.tmps) = false := by
    unfold Region.wanted
    simp only [hg]
    unfold yielded
    rw [h4]
    simp only [Option.bind_some, hx]
    cases h5 : a.tmps[t]? with
    | none => simp
    | some u =>
      rw [Array.getD_eq_getD_getElem?, h5] at hv
      simp at hv
      subst hv
      rfl
  simp only [h3]
  exact h
end
end Go.Kq

namespace Go.Kq
open Go.RowKit

/-- A box: operation a makes it, with the cells zero; operation s fills it: then it has the cells full. v: what operation a gives. -/
structure Bx where
  a : Nat
  s : Nat
  t : TypeId
  zero : Array Value
  full : Array Value
  v : Nat → Value
def ptrV (g : Nat) : Value := .pointer (some ⟨g, 0, none⟩)
def slcV (n : Nat) (g : Nat) : Value := .slice (some ⟨g, 0, none⟩) n n
theorem ptrV_inj {a b : Nat} (h : ptrV a = ptrV b) : a = b := by
  unfold ptrV at h
  injection h with h
  injection h with h
  injection h
theorem slcV_inj (n : Nat) {a b : Nat} (h : slcV n a = slcV n b) : a = b := by
  unfold slcV at h
  injection h with h
  injection h with h
  injection h
/-- The numbers of operations are apart. -/
def apartL (L : List Bx) : Bool := decide ((L.map (·.a) ++ L.map (·.s)).Nodup)
structure BxW (w1 : World) (L : List Bx) (r : Nat → Option Value) (w : World) : Prop where
  kp : Kp No w1 w
  box : ∀ x ∈ L, ∀ u, r x.a = some u → ∃ g, u = x.v g ∧ w1.heap.size ≤ g ∧ g < w.heap.size ∧ w.heap[g]? = some (.cells (if (r x.s).isSome then x.full else x.zero) x.t (0, 0))
  ne : ∀ x ∈ L, ∀ y ∈ L, x.a ≠ y.a → ∀ g h, r x.a = some (x.v g) → r y.a = some (y.v h) → g ≠ h
  had : ∀ x ∈ L, r x.s ≠ none → r x.a ≠ none
section
variable {w1 w w' : World} {L : List Bx} {r : Nat → Option Value}
theorem BxW.start (w1 : World) (L : List Bx) : BxW w1 L (fun _ => none) w1.drew :=
  ⟨Kp.drew _ _, fun _ _ _ h => (by cases h), fun _ _ _ _ _ _ _ h => (by cases h), fun _ _ h => absurd rfl h⟩
def freeOf (L : List Bx) (i : Nat) : Bool := L.all fun x => decide (x.a ≠ i) && decide (x.s ≠ i)
theorem freeOf_of {i : Nat} (h : freeOf L i = true) {x : Bx} (hx : x ∈ L) : x.a ≠ i ∧ x.s ≠ i := by
  have := List.all_eq_true.1 h x hx
  simpa using this
theorem BxW.upd {i : Nat} (h : BxW w1 L r w) (hf : freeOf L i = true) (v : Value) : BxW w1 L (Kq.upd r i v) w := by
  have e1 : ∀ x ∈ L, Kq.upd r i v x.a = r x.a := fun x hx => upd_ne _ _ (freeOf_of hf hx).1
  have e2 : ∀ x ∈ L, Kq.upd r i v x.s = r x.s := fun x hx => upd_ne _ _ (freeOf_of hf hx).2
  refine ⟨h.kp, fun x hx u hu => ?_, fun x hx y hy hne g k h1 h2 => ?_, fun x hx hs => ?_⟩
  · rw [e1 x hx] at hu
    rw [e2 x hx]
    exact h.box x hx u hu
  · rw [e1 x hx] at h1
    rw [e1 y hy] at h2
    exact h.ne x hx y hy hne g k h1 h2
  · rw [e2 x hx] at hs
    rw [e1 x hx]
    exact h.had x hx hs
theorem BxW.call (h : BxW w1 L r w) (k : Kp No w w') : BxW w1 L r w' :=
  ⟨h.kp.tr k, fun x hx u hu => by
    obtain ⟨g, h1, h2, h3, h4⟩ := h.box x hx u hu
    exact ⟨g, h1, h2, Nat.lt_of_lt_of_le h3 k.size, k.heap h4 id⟩, h.ne, h.had⟩
theorem nodup_idx (hL : apartL L = true) {x y : Bx} (hx : x ∈ L) (hy : y ∈ L) : x.a ≠ y.s ∧ (x.s = y.s → x.a = y.a) := by
  unfold apartL at hL
  rw [decide_eq_true_eq, List.nodup_append] at hL
  obtain ⟨_, h2, h3⟩ := hL
  refine ⟨h3 _ (List.mem_map_of_mem hx) _ (List.mem_map_of_mem hy), fun e => ?_⟩
  obtain ⟨i, hi, hxi⟩ := List.mem_iff_getElem.1 hx
  obtain ⟨j, hj, hyj⟩ := List.mem_iff_getElem.1 hy
  have hij : i = j := by
    have hp := List.pairwise_iff_getElem.1 h2
    rcases Nat.lt_trichotomy i j with h | h | h
    · have := hp i j (by simpa using hi) (by simpa using hj) h
      simp [hxi, hyj, e] at this
    · exact h
    · have := hp j i (by simpa using hj) (by simpa using hi) h
      simp [hxi, hyj, e] at this
  subst hij
  rw [← hxi, ← hyj]
theorem BxW.alloc (h : BxW w1 L r w) (hL : apartL L = true) {x : Bx} (hx : x ∈ L) (hr : r x.a = none) (hv : ∀ y ∈ L, ∀ {p q}, y.v p = y.v q → p = q) (hsame : ∀ y ∈ L, y.a = x.a → y = x) : BxW w1 L (Kq.upd r x.a (x.v w.heap.size)) (w.alloc (.cells x.zero x.t)) := by
  have hs : r x.s = none := by
    cases hs : r x.s with
    | none => rfl
    | some v => exact absurd hr (h.had x hx (by rw [hs]; simp))
  have es : ∀ y ∈ L, Kq.upd r x.a (x.v w.heap.size) y.s = r y.s := fun y hy => upd_ne _ _ (fun e => (nodup_idx hL hx hy).1 e.symm)
  have hnew : (w.alloc (.cells x.zero x.t)).heap[w.heap.size]? = some (.cells x.zero x.t (0, 0)) := heap_alloc_new w _
  refine ⟨h.kp.tr (Kp.alloc _ _ _), fun y hy u hu => ?_, fun y hy z hz hne g k h1 h2 => ?_, fun y hy hys => ?_⟩
  · rw [es y hy]
    by_cases e : y.a = x.a
    · obtain rfl := hsame y hy e
      rw [upd_same] at hu
      cases hu
      refine ⟨_, rfl, h.kp.size, by simp, ?_⟩
      rw [hs]
      exact hnew
    · rw [upd_ne _ _ e] at hu
      obtain ⟨g, q1, q2, q3, q4⟩ := h.box y hy u hu
      exact ⟨g, q1, q2, by simp; omega, (Kp.alloc No w _).heap q4 id⟩
  · by_cases e1 : y.a = x.a
    · obtain rfl := hsame y hy e1
      rw [upd_same] at h1
      rw [upd_ne _ _ (fun e => hne e.symm)] at h2
      obtain ⟨g', q1, _, q3, _⟩ := h.box z hz _ h2
      have e2 := hv y hy (Option.some.inj h1)
      have e3 := hv z hz q1
      omega
    · rw [upd_ne _ _ e1] at h1
      by_cases e2 : z.a = x.a
      · obtain rfl := hsame z hz e2
        rw [upd_same] at h2
        obtain ⟨g', q1, _, q3, _⟩ := h.box y hy _ h1
        have e3 := hv y hy q1
        have e4 := hv z hz (Option.some.inj h2)
        omega
      · rw [upd_ne _ _ e2] at h2
        exact h.ne y hy z hz hne g k h1 h2
  · rw [es y hy] at hys
    have := h.had y hy hys
    by_cases e : y.a = x.a
    · rw [e, upd_same]; simp
    · rw [upd_ne _ _ e]
      exact this
theorem BxW.store (h : BxW w1 L r w) (hL : apartL L = true) {x : Bx} (hx : x ∈ L) {g : Nat} (hr : r x.a = some (x.v g)) (hgl : w1.heap.size ≤ g) (_hv : ∀ y ∈ L, ∀ {p q}, y.v p = y.v q → p = q) (hsame : ∀ y ∈ L, y.a = x.a → y = x) (hk : Kp (One g) w w') (hg : w'.heap[g]? = some (.cells x.full x.t (0, 0))) (v : Value) :
    BxW w1 L (Kq.upd r x.s v) w' := by
  have ea : ∀ y ∈ L, Kq.upd r x.s v y.a = r y.a := fun y hy => upd_ne _ _ (nodup_idx hL hy hx).1
  refine ⟨h.kp.trans hk (fun k hk e => by unfold One at e; omega), fun y hy u hu => ?_, fun y hy z hz hne p q h1 h2 => ?_, fun y hy hys => ?_⟩
  · rw [ea y hy] at hu
    by_cases e : y.a = x.a
    · obtain rfl := hsame y hy e
      rw [hr] at hu
      cases hu
      refine ⟨g, rfl, hgl, (Array.getElem?_eq_some_iff.1 hg).1, ?_⟩
      rw [upd_same]
      exact hg
    · obtain ⟨g', q1, q2, q3, q4⟩ := h.box y hy u hu
      subst q1
      have hne := h.ne y hy x hx e g' g hu hr
      refine ⟨g', rfl, q2, Nat.lt_of_lt_of_le q3 hk.size, ?_⟩
      rw [upd_ne _ _ (fun e2 => e ((nodup_idx hL hy hx).2 e2))]
      exact hk.heap q4 (fun e => hne e)
  · rw [ea y hy] at h1
    rw [ea z hz] at h2
    exact h.ne y hy z hz hne p q h1 h2
  · rw [ea y hy]
    by_cases e : y.s = x.s
    · have := hsame y hy ((nodup_idx hL hy hx).2 e)
      subst this
      rw [hr]
      simp
    · rw [upd_ne _ _ e] at hys
      exact h.had y hy hys
/-- A filled box. -/
theorem BxW.filled (h : BxW w1 L r w) {x : Bx} (hx : x ∈ L) (hs : r x.s ≠ none) : ∃ g, r x.a = some (x.v g) ∧ w1.heap.size ≤ g ∧ g < w.heap.size ∧ w.heap[g]? = some (.cells x.full x.t (0, 0)) := by
  cases ha : r x.a with
  | none => exact absurd ha (h.had x hx hs)
  | some u =>
    obtain ⟨g, rfl, h2, h3, h4⟩ := h.box x hx u ha
    rw [if_pos (Option.isSome_iff_ne_none.2 hs)] at h4
    exact ⟨g, rfl, h2, h3, h4⟩
/-- A box that has not been filled. -/
theorem BxW.empty (h : BxW w1 L r w) {x : Bx} (hx : x ∈ L) (hs : r x.s = none) {u : Value} (hu : r x.a = some u) : ∃ g, u = x.v g ∧ w1.heap.size ≤ g ∧ g < w.heap.size ∧ w.heap[g]? = some (.cells x.zero x.t (0, 0)) := by
  obtain ⟨g, h1, h2, h3, h4⟩ := h.box x hx u hu
  rw [hs] at h4
  exact ⟨g, h1, h2, h3, h4⟩
end
end Go.Kq
