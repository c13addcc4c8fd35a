/- cmp.Compare of integers, cmp.Or: contracts. · cmp.Compare of int64. · cmp.Or of integers. · Chapter 09: cuts, plates, spots; the nest by shelves as the program seeks it: plain. · Chapter 09: values and cells of cuts, plates and spots; the first place at which a test holds. · Intervals of whole numbers: floors, ceilings, spans, roots: plain. No program in sight. · Chapter 09: the library's functions at this dump, as their contracts want them (printed by lay.py). · spans: absolute values, products of two words and a sign, and their order. · Guarded operations in a region that draws its order: run or passed over. No program in sight. · Values that a region draws and holds, with facts of the world: invariants for wp_region_each. No program in sight. -/
import Derived.Test.YtamjhpdgclbfgaaProg
import Derived.KernelRfl
import Derived.StillTailTactics
import Derived.WalkKit
import Derived.Shelf.Lays
import Derived.Ground.NamesProg
import Derived.Shelf.SlGeneric
import Derived.Lib.Hide
import Derived.Shelf.Bits.Mul64
import Derived.Laws.StructEq
import Derived.Test.YtamjhpdgclbfgaaXLibRowM
import Derived.Test.YtamjhpdgclbfgaaXLibReg
namespace Go.Proofs.Ytamjhpdgclbfgaa
open Go.RowKit Go.Kq

def cmpI (x y : Int) : Int := if x < y then -1 else if y < x then 1 else 0
def orL : List Int → Int
  | [] => 0
  | x :: l => if x = 0 then orL l else x
theorem isNaNI (x : Int) (w : World) : Calls Try.prog 97 #[.int .i64 x] w fun e w' => e = .returned (.bool false) ∧ w' = w := by
  go_enter Try.func97, Try.ntmps97
  go_wp2
  go_ret
  exact ⟨ret_bool (by simp), rfl⟩
set_option maxHeartbeats 1000000 in
theorem cmpI_any (x y : Int) (w : World) : Calls Try.prog 68 #[.int .i64 x, .int .i64 y] w fun e w' => e = .returned (.int .i64 (cmpI x y)) ∧ w' = w := by
  go_enter Try.func68, Try.ntmps68
  go_wp2_with (go_at_call 97; refine (isNaNI _ _).mono ?_; rintro e w' ⟨rfl, rfl⟩)
  all_goals
    go_ret
    refine ⟨ret_i64 ?_, rfl⟩
    unfold cmpI
    (repeat' split) <;> first | rfl | (exfalso; omega)
end Go.Proofs.Ytamjhpdgclbfgaa

namespace Go.Proofs.Ytamjhpdgclbfgaa
open Go.RowKit Go.Kq
theorem isNaNL (x : Int) (w : World) : Calls Try.prog 96 #[.int .i64 x] w fun e w' => e = .returned (.bool false) ∧ w' = w := by
  go_enter Try.func96, Try.ntmps96
  go_wp2
  go_ret
  exact ⟨ret_bool (by simp), rfl⟩
set_option maxHeartbeats 1000000 in
theorem cmpL_any (x y : Int) (w : World) : Calls Try.prog 67 #[.int .i64 x, .int .i64 y] w fun e w' => e = .returned (.int .i64 (cmpI x y)) ∧ w' = w := by
  go_enter Try.func67, Try.ntmps67
  go_wp2_with (go_at_call 96; refine (isNaNL _ _).mono ?_; rintro e w' ⟨rfl, rfl⟩)
  all_goals
    go_ret
    refine ⟨ret_i64 ?_, rfl⟩
    unfold cmpI
    (repeat' split) <;> first | rfl | (exfalso; omega)
end Go.Proofs.Ytamjhpdgclbfgaa

namespace Go.Proofs.Ytamjhpdgclbfgaa
open Go.RowKit Go.Kq
theorem orL_drop : ∀ (xs : List Int) (k : Nat), (∀ j x, j < k → xs[j]? = some x → x = 0) → orL xs = orL (xs.drop k)
  | [], k, _ => by simp
  | x :: xs, 0, _ => rfl
  | x :: xs, k + 1, h => by
    have h0 := h 0 x (by omega) rfl
    rw [List.drop_succ_cons, ← orL_drop xs k fun j y hj hy => h (j + 1) y (by omega) (by simpa using hy)]
    simp [orL, h0]
set_option maxHeartbeats 1000000 in
theorem or_any (A : Option Addr) (n cap : Nat) (xs : List Int) (w : World) (hx : RdI .i64 w A n xs) (hn : n ≤ 1000000) :
    Calls Try.prog 66 #[.slice A n cap] w fun e w' => e = .returned (.int .i64 (orL xs)) ∧ w' = w := by
  have hl := hx.1
  go_enter Try.func66, Try.ntmps66
  go_wp2_with fail
  go_loop [8] (fun i => ∃ k : Nat, k ≤ n ∧ i = .int .i64 k ∧ ∀ j x, j < k → xs[j]? = some x → x = 0) (fun i => n - (intOf i).toNat)
  case atStart => exact ⟨0, by omega, rfl, fun j x h => by omega⟩
  case round =>
    obtain ⟨k, hk, rfl, hz⟩ := hrel
    have HZ := Lib.hid hz
    clear hz
    by_cases hlt : k < n
    · obtain ⟨x, hxk⟩ : ∃ x, xs[k]? = some x := ⟨_, List.getElem?_eq_getElem (by omega)⟩
      obtain ⟨b, o, rfl, hb, c0⟩ := hx.2 k x hxk
      have HX := Lib.hid hxk
      clear hxk
      by_cases h0 : x = 0
      · subst h0
        go_wp2
        go_round
        case rel =>
          refine ⟨k + 1, by omega, by go_num, fun j y hj hy => ?_⟩
          by_cases e : j = k
          · subst e
            have := HX.out
            rw [hy] at this
            cases this
            rfl
          · exact HZ.out j y (by omega) hy
        case measure => simp [intOf]; omega
      · have hne : (x == 0) = false := by rw [beq_eq_false_iff_ne]; exact h0
        go_wp2
        go_ret
        refine ⟨ret_i64 ?_, rfl⟩
        rw [orL_drop xs k HZ.out, List.drop_eq_getElem_cons (by omega)]
        have := HX.out
        rw [List.getElem?_eq_getElem (by omega)] at this
        simp at this
        simp [orL, this, h0]
    · go_wp2
      go_ret
      refine ⟨ret_i64 ?_, rfl⟩
      rw [orL_drop xs k HZ.out, List.drop_of_length_le (by omega)]
      rfl
end Go.Proofs.Ytamjhpdgclbfgaa

namespace Go.Proofs.Ytamjhpdgclbfgaa

structure Ct where
  (w h : Int)
deriving DecidableEq, Inhabited
structure Pt where
  (w h k : Int)
deriving DecidableEq, Inhabited
structure Spo where
  (p s x y : Int)
deriving DecidableEq, Inhabited
/-- The heights at which shelves lie: T = how high each plate is used. -/
def yF (K : Int) : List (Nat × Int) → List Int → List Int
  | [], _ => []
  | (o, h) :: r, T => T.getD o 0 :: yF K r (T.set o (T.getD o 0 + (h + K)))
/-- The spots: X = how wide each shelf is used. -/
def spF (K : Int) (ON : List Nat) (Y : List Int) : List (Nat × Ct) → List Int → List Spo
  | [], _ => []
  | (k, c) :: r, X => ⟨(ON.getD k 0 : Nat), (k : Nat), X.getD k 0, Y.getD k 0⟩ :: spF K ON Y r (X.set k (X.getD k 0 + (c.w + K)))
def spotsF (K : Int) (l : List Ct) (S ON : List Nat) (H : List Int) (u : Nat) : List Spo :=
  spF K ON (yF K (ON.zip H) (List.replicate u 0)) (S.zip l) (List.replicate H.length 0)
abbrev Bst := Option (List Spo × Int × Int)
def cmpS (a b : Spo) : Int := orL [cmpI a.p b.p, cmpI a.s b.s]
def cmpSs : List Spo → List Spo → Int
  | [], [] => 0
  | [], _ :: _ => -1
  | _ :: _, [] => 1
  | a :: x, b :: y => if cmpS a b ≠ 0 then cmpS a b else cmpSs x y
def keepF (K : Int) (l : List Ct) (S ON : List Nat) (H U : List Int) (B : Bst) : Bst :=
  let s := spotsF K l S ON H U.length
  match B with
  | none => some (s, (U.length : Int), U.sum)
  | some (b, c, d) => if orL [cmpI U.length c, cmpI U.sum d, cmpSs s b] < 0 then some (s, (U.length : Int), U.sum) else B
def prunedB (U : List Int) (B : Bst) : Bool :=
  match B with
  | none => false
  | some (_, c, _) => decide (c < (U.length : Int))
def stackF (P : Pt) (l : List Ct) (S : List Nat) (H : List Int) : List Int → List Nat → List Int → Bst → Bst
  | [], ON, U, B => if prunedB U B then B else keepF P.k l S ON H U B
  | h :: hs, ON, U, B => if prunedB U B then B else
    stackF P l S H hs (ON ++ [U.length]) (U ++ [h]) ((List.range U.length).foldl (fun B on => if P.h < U.getD on 0 + P.k + h then B else stackF P l S H hs (ON ++ [on]) (U.set on (U.getD on 0 + P.k + h)) B) B)
def shelvesF (P : Pt) (l : List Ct) : List Ct → List Nat → List Int → List Int → Bst → Bst
  | [], S, _, H, B => stackF P l S H H [] [] B
  | x :: xs, S, W, H, B =>
    shelvesF P l xs (S ++ [W.length]) (W ++ [x.w]) (H ++ [x.h]) ((List.range W.length).foldl (fun B k => if P.w < W.getD k 0 + P.k + x.w then B else shelvesF P l xs (S ++ [k]) (W.set k (W.getD k 0 + P.k + x.w)) (H.set k (max (H.getD k 0) x.h)) B) B)
def nestF (P : Pt) (l : List Ct) : List Spo := match shelvesF P l l [] [] [] none with | some (b, _) => b | none => []
/-- The first place at which a test holds, or the length. -/
def firstI {α : Type} (p : α → Bool) : List α → Nat
  | [] => 0
  | a :: l => if p a then 0 else firstI p l + 1
structure Qs where
  (sh : List Spo) (tp : List Int) (out : List Spo)
deriving Inhabited
def qNew (P : Pt) (c : Ct) (q : Qs) : Qs :=
  let on := firstI (fun y => decide (y + c.h ≤ P.h)) q.tp
  let tp := if on = q.tp.length then q.tp ++ [0] else q.tp
  { q with sh := q.sh ++ [⟨(on : Nat), (q.sh.length : Nat), 0, tp.getD on 0⟩], tp := tp.set on (tp.getD on 0 + (c.h + P.k)) }
def qPut (P : Pt) (c : Ct) (i k : Nat) (q : Qs) : Qs :=
  let s := q.sh.getD k default
  { q with out := q.out.set i s, sh := q.sh.set k { s with x := s.x + (c.w + P.k) } }
def qStep (P : Pt) (l : List Ct) (q : Qs) (i : Nat) : Qs :=
  let c := l.getD i default
  let k := firstI (fun s : Spo => decide (s.x + c.w ≤ P.w)) q.sh
  qPut P c i k (if k = q.sh.length then qNew P c q else q)
def befF (l : List Ct) (a b : Nat) : Int := orL [cmpI (l.getD b default).h (l.getD a default).h, cmpI (l.getD b default).w (l.getD a default).w, cmpI a b]
def insF (l : List Ct) (i : Nat) : List Nat → List Nat
  | [] => [i]
  | a :: r => if befF l a i < 0 then a :: insF l i r else i :: a :: r
def ordF (l : List Ct) : List Nat := (List.range l.length).foldl (fun o i => insF l i o) []
def quickF (P : Pt) (l : List Ct) : List Spo := ((ordF l).foldl (qStep P l) ⟨[], [], List.replicate l.length default⟩).out
theorem nest_ex : nestF ⟨10, 10, 0⟩ [⟨4, 4⟩, ⟨9, 5⟩, ⟨5, 3⟩] = [⟨0, 0, 0, 0⟩, ⟨0, 1, 0, 4⟩, ⟨0, 0, 4, 0⟩] := by kernel_rfl
end Go.Proofs.Ytamjhpdgclbfgaa

namespace Go.Proofs.Ytamjhpdgclbfgaa
open Go.RowKit Go.Kq

def Ct.cells (c : Ct) : List Value := [.int .i64 c.w, .int .i64 c.h]
def Ct.val (c : Ct) : Value := .agg #[.int .i64 c.w, .int .i64 c.h]
def Pt.cells (c : Pt) : List Value := [.int .i64 c.w, .int .i64 c.h, .int .i64 c.k]
def Pt.val (c : Pt) : Value := .agg #[.int .i64 c.w, .int .i64 c.h, .int .i64 c.k]
def Spo.cells (c : Spo) : List Value := [.int .i64 c.p, .int .i64 c.s, .int .i64 c.x, .int .i64 c.y]
def Spo.val (c : Spo) : Value := .agg #[.int .i64 c.p, .int .i64 c.s, .int .i64 c.x, .int .i64 c.y]
def i64V (x : Int) : Value := .int .i64 x
theorem ct_len (c : Ct) : c.cells.length = 2 := rfl
theorem spo_len (c : Spo) : c.cells.length = 4 := rfl
abbrev RdC (w : World) (A : Option Addr) (n : Nat) (l : List Ct) : Prop := Rd Ct.cells 2 w A n l
abbrev RdS (w : World) (A : Option Addr) (n : Nat) (l : List Spo) : Prop := Rd Spo.cells 4 w A n l
theorem any_take_succ {α : Type} (p : α → Bool) (l : List α) (k : Nat) (v : α) (h : l[k]? = some v) : (l.take (k + 1)).any p = ((l.take k).any p || p v) := by
  rw [List.take_add_one, h]
  simp
theorem firstI_le {α : Type} (p : α → Bool) : ∀ l : List α, firstI p l ≤ l.length
  | [] => Nat.le_refl _
  | a :: l => by
    have := firstI_le p l
    simp only [firstI, List.length_cons]
    split <;> omega
theorem firstI_at {α : Type} {p : α → Bool} : ∀ {l : List α} {k : Nat} {v : α}, (l.take k).any p = false → l[k]? = some v → p v = true → firstI p l = k
  | [], _, _, _, h, _ => by simp at h
  | a :: l, 0, v, _, h, hp => by
    simp at h
    subst h
    simp [firstI, hp]
  | a :: l, k + 1, v, hn, h, hp => by
    simp only [List.take_succ_cons, List.any_cons, Bool.or_eq_false_iff] at hn
    simp only [firstI, hn.1]
    rw [firstI_at hn.2 (by simpa using h) hp]
    rfl
theorem firstI_none {α : Type} {p : α → Bool} : ∀ {l : List α}, l.any p = false → firstI p l = l.length
  | [], _ => rfl
  | a :: l, h => by
    simp only [List.any_cons, Bool.or_eq_false_iff] at h
    simp only [firstI, h.1, firstI_none h.2]
    rfl
theorem firstI_some {α : Type} {p : α → Bool} : ∀ {l : List α}, l.any p = true → firstI p l < l.length
  | [], h => by simp at h
  | a :: l, h => by
    simp only [firstI]
    cases ha : p a
    · have := firstI_some (p := p) (l := l) (by simpa [ha] using h)
      simp
      omega
    · simp
def ixI {α : Type} (p : α → Bool) (l : List α) : Int := if firstI p l < l.length then (firstI p l : Nat) else -1
theorem ixI_at {α : Type} {p : α → Bool} {l : List α} {k : Nat} {v : α} (h : (l.take k).any p = false) (hv : l[k]? = some v) (hp : p v = true) : ixI p l = (k : Nat) := by
  have := firstI_at h hv hp
  unfold ixI
  rw [this, if_pos (List.getElem?_eq_some_iff.1 hv).1]
theorem ixI_none {α : Type} {p : α → Bool} {l : List α} (h : l.any p = false) : ixI p l = -1 := by
  unfold ixI
  rw [firstI_none h, if_neg (by omega)]
theorem ixI_any {α : Type} (p : α → Bool) (l : List α) : decide (0 ≤ ixI p l) = l.any p := by
  unfold ixI
  cases h : l.any p
  · rw [firstI_none h, if_neg (by omega)]
    rfl
  · rw [if_pos (firstI_some h), decide_eq_true_eq]
    omega
end Go.Proofs.Ytamjhpdgclbfgaa

namespace Go.Kq

/-- v / d rounded down or up. -/
def rnd (up : Bool) (v d : Int) : Int := if up then -((-v) / d) else v / d
/-- What the absolute value gives, rounded so. -/
def rndA (up neg : Bool) (m d : Nat) : Nat := m / d + if m % d ≠ 0 ∧ up ≠ neg then 1 else 0
theorem neg_div {m d : Nat} (hd : 0 < d) : (-(m : Int)) / (d : Int) = -((m / d + if m % d ≠ 0 then 1 else 0 : Nat) : Int) := by
  have h1 : (m : Int) = d * ((m / d : Nat) : Int) + ((m % d : Nat) : Int) := by
    have := Nat.div_add_mod m d
    rw [← Int.natCast_mul, ← Int.natCast_add, this]
  have h2 : ((m % d : Nat) : Int) < d := by have := Nat.mod_lt m hd; omega
  have hd' : (0 : Int) < (d : Int) := by omega
  by_cases h : m % d = 0
  · rw [h] at h1
    rw [if_neg (by simp [h])]
    refine Int.ediv_eq_of_eq_mul_right (by omega) ?_
    rw [h1, Int.mul_neg]
    simp
  · rw [if_pos h]
    have e : (-(m : Int)) = (d - ((m % d : Nat) : Int)) + d * (-((m / d + 1 : Nat) : Int)) := by
      rw [Int.mul_neg, show ((m / d + 1 : Nat) : Int) = ((m / d : Nat) : Int) + 1 by omega, Int.mul_add]
      omega
    rw [e, Int.add_mul_ediv_left _ _ (by omega), Int.ediv_eq_zero_of_lt (by omega) (by omega)]
    omega
theorem rnd_abs (up : Bool) (v : Int) {d : Nat} (hd : 0 < d) : rnd up v d = if v < 0 then -((rndA up true v.natAbs d : Nat) : Int) else ((rndA up false v.natAbs d : Nat) : Int) := by
  unfold rnd rndA
  by_cases hv : v < 0
  · have e : v = -(v.natAbs : Int) := by omega
    cases up
    · rw [if_neg (by simp), if_pos hv, e, neg_div hd]
      simp
    · rw [if_pos rfl, if_pos hv]
      have e2 : -v = (v.natAbs : Int) := by omega
      rw [e2]
      simp
  · have e : v = (v.natAbs : Int) := by omega
    cases up
    · rw [if_neg (by simp), if_neg hv, e]
      simp
    · rw [if_pos rfl, if_neg hv, e, neg_div hd]
      simp
def M62 : Int := 4611686018427387904
/-- A quotient that is allowed. -/
def fits (q : Int) : Bool := decide (-M62 ≤ q) && decide (q ≤ M62)
def minL : Int → List Int → Int
  | x, [] => x
  | x, y :: l => minL (if y < x then y else x) l
def maxL : Int → List Int → Int
  | x, [] => x
  | x, y :: l => maxL (if x < y then y else x) l
/-- An interval, and an error. -/
abbrev IvE := Int × Int × Int
def spanV (d : Int) (x : Int) (l : List Int) : IvE :=
  if fits (rnd false (minL x l) d) && fits (rnd true (maxL x l) d) then (rnd false (minL x l) d, rnd true (maxL x l) d, 0) else (0, 0, 7)
end Go.Kq

namespace Go.Proofs.Ytamjhpdgclbfgaa
open Go.Shelf
def mul64_ren : Go.Shelf.Ren := ⟨fun | 264 => 99 | n => n, fun | 53 => 115 | 46 => 109 | n => n, fun | n => n⟩
theorem mul64 : Go.Proofs.Lays.n264 Try.prog mul64_ren := {
  mixed := by kernel_rfl
  f264 := Try.func99.trans (congrArg some (by kernel_rfl))
  t46 := Try.underlying109
  a46 := Try.isAgg109
  z46 := Try.sizeOf109
  v46 := Try.zeroValue109
  t53 := Try.underlying115
  a53 := Try.isAgg115
  z53 := Try.sizeOf115
  v53 := Try.zeroValue115 }
def lead64_ren : Go.Shelf.Ren := ⟨fun | 134 => 118 | 129 => 95 | n => n, fun | 53 => 115 | 3 => 3 | 4 => 4 | 46 => 109 | 5 => 5 | 9 => 9 | n => n, fun | n => n⟩
theorem lead64 : Go.Proofs.Lays.n134 Try.prog lead64_ren := {
  mixed := by kernel_rfl
  f129 := Try.func95.trans (congrArg some (by kernel_rfl))
  f134 := Try.func118.trans (congrArg some (by kernel_rfl))
  t3 := Try.underlying3
  a3 := Try.isAgg3
  z3 := Try.sizeOf3
  v3 := Try.zeroValue3
  t4 := Try.underlying4
  a4 := Try.isAgg4
  z4 := Try.sizeOf4
  v4 := Try.zeroValue4
  t5 := Try.underlying5
  a5 := Try.isAgg5
  z5 := Try.sizeOf5
  v5 := Try.zeroValue5
  t9 := Try.underlying9
  a9 := Try.isAgg9
  z9 := Try.sizeOf9
  v9 := Try.zeroValue9
  t46 := Try.underlying109
  a46 := Try.isAgg109
  z46 := Try.sizeOf109
  v46 := Try.zeroValue109
  t53 := Try.underlying115
  a53 := Try.isAgg115
  z53 := Try.sizeOf115
  v53 := Try.zeroValue115 }
end Go.Proofs.Ytamjhpdgclbfgaa

namespace Go.Proofs.Ytamjhpdgclbfgaa
open Go.RowKit Go.Kq

/-- A number of two words and a sign. -/
def lgV (v : Int) : Value := .agg #[.bool (decide (v < 0)), .int .u64 ((v.natAbs / 18446744073709551616 : Nat) : Int), .int .u64 ((v.natAbs % 18446744073709551616 : Nat) : Int)]
set_option maxHeartbeats 1000000 in
theorem size_any (n : Int) (w : World) (h1 : -9223372036854775807 ≤ n) (h2 : n ≤ 9223372036854775807) :
    Calls Try.prog 100 #[.int .i64 n] w fun e w' => e = .returned (.int .u64 ((n.natAbs : Nat) : Int)) ∧ w' = w := by
  by_cases hn : n < 0
  · have e : ((n.natAbs : Nat) : Int) = -n := by omega
    rw [e]
    go_enter Try.func100, Try.ntmps100
    go_wp2
    all_goals
      go_ret
      refine ⟨?_, rfl⟩
      congr 2
      try (rw [IntKind.wrap_u64]; omega)
  · have e : ((n.natAbs : Nat) : Int) = n := by omega
    rw [e]
    go_enter Try.func100, Try.ntmps100
    go_wp2
    all_goals
      go_ret
      refine ⟨?_, rfl⟩
      congr 2
      try (rw [IntKind.wrap_u64]; omega)
theorem number_any (n : Int) (w : World) : Calls Try.prog 75 #[.int .i64 n] w fun e w' => e = .returned (.bool (fits n)) ∧ w' = w := by
  unfold fits M62
  go_enter Try.func75, Try.ntmps75
  go_wp2
  all_goals
    go_ret
    refine ⟨ret_bool ?_, rfl⟩
    first | (simp [*]; done) | (simp; omega)
theorem or_zero {a b : Nat} : a ||| b = 0 ↔ a = 0 ∧ b = 0 := Nat.or_eq_zero_iff
theorem mul_neg_iff {a b : Int} (h : a * b ≠ 0) : (a * b < 0) ↔ ¬ ((a < 0) ↔ (b < 0)) := by
  rcases Int.lt_trichotomy a 0 with ha | ha | ha
  · rcases Int.lt_trichotomy b 0 with hb | hb | hb
    · have := Int.mul_pos_of_neg_of_neg ha hb
      constructor <;> intro h1 <;> omega
    · rw [hb] at h
      simp at h
    · have := Int.mul_neg_of_neg_of_pos ha hb
      constructor <;> intro h1 <;> omega
  · rw [ha] at h
    simp at h
  · rcases Int.lt_trichotomy b 0 with hb | hb | hb
    · have := Int.mul_neg_of_pos_of_neg ha hb
      constructor <;> intro h1 <;> omega
    · rw [hb] at h
      simp at h
    · have := Int.mul_pos ha hb
      constructor <;> intro h1 <;> omega
set_option maxHeartbeats 2000000 in
theorem times_any (a b : Int) (w : World) (ha1 : -9223372036854775807 ≤ a) (ha2 : a ≤ 9223372036854775807) (hb1 : -9223372036854775807 ≤ b) (hb2 : b ≤ 9223372036854775807) :
    Calls Try.prog 72 #[.int .i64 a, .int .i64 b] w fun e w' => e = .returned (lgV (a * b)) ∧ Kp No w w' := by
  obtain ⟨m, hm⟩ : ∃ m, a.natAbs * b.natAbs = m := ⟨_, rfl⟩
  have hmm : (a * b).natAbs = m := by rw [Int.natAbs_mul, hm]
  have hmul := fun w0 => Any.bits_Mul64 mul64 a.natAbs b.natAbs (by omega) (by omega) w0
  change ∀ w0, Calls Try.prog 99 _ _ _ at hmul
  rw [hm] at hmul
  have hmb : m < 18446744073709551616 * 18446744073709551616 := by
    rw [← hm]
    exact Nat.mul_lt_mul'' (by omega) (by omega)
  have hx : m / 18446744073709551616 < 18446744073709551616 := by omega
  have hy : m % 18446744073709551616 < 18446744073709551616 := by omega
  have hor : bits .or .u64 ((m / 18446744073709551616 : Nat) : Int) ((m % 18446744073709551616 : Nat) : Int) = (((m / 18446744073709551616) ||| (m % 18446744073709551616) : Nat) : Int) := bits_or_u64_nat _ _ hx hy
  have hoz : (m / 18446744073709551616 ||| m % 18446744073709551616) = 0 ↔ m = 0 := by
    rw [or_zero]
    omega
  have hmz : m = 0 ↔ a * b = 0 := by rw [← hmm]; omega
  have hres : lgV (a * b) = .agg #[.bool (decide (a * b < 0)), .int .u64 ((m / 18446744073709551616 : Nat) : Int), .int .u64 ((m % 18446744073709551616 : Nat) : Int)] := by unfold lgV; rw [hmm]
  rw [hres]
  have HM := Lib.hid hmul
  clear hmul hres hmm hm hmb
  generalize m / 18446744073709551616 = hi at *
  generalize m % 18446744073709551616 = lo at *
  have HZ := Lib.hid (hoz.trans hmz)
  clear hoz hmz
  generalize hi ||| lo = o at *
  have HO := Lib.hid hor
  clear hor
  have HN := Lib.hid (@mul_neg_iff a b)
  generalize a * b = p at *
  have hs : decide (p < 0) = ((decide (a < 0) != decide (b < 0)) && !decide (o = 0)) := by
    by_cases hO : o = 0
    · have := HZ.out.1 hO
      simp [this, hO]
    · have hp : p ≠ 0 := fun h => hO (HZ.out.2 h)
      have h3 := HN.out hp
      have hO2 : decide (o = 0) = false := decide_eq_false hO
      rw [hO2]
      by_cases hA : a < 0 <;> by_cases hB : b < 0
      · rw [decide_eq_false (show ¬ p < 0 by omega), decide_eq_true hA, decide_eq_true hB]; rfl
      · rw [decide_eq_true (show p < 0 by omega), decide_eq_true hA, decide_eq_false hB]; rfl
      · rw [decide_eq_true (show p < 0 by omega), decide_eq_false hA, decide_eq_true hB]; rfl
      · rw [decide_eq_false (show ¬ p < 0 by omega), decide_eq_false hA, decide_eq_false hB]; rfl
  rw [hs]
  clear hs HZ HN
  have hor := HO.out
  by_cases hA : a < 0 <;> by_cases hB : b < 0 <;> by_cases hO : o = 0
  all_goals
    have hO' : ((o : Int) == 0) = decide (o = 0) := by rw [Bool.eq_iff_iff]; simp
    simp only [hA, hB, hO, decide_true, decide_false] at hO' ⊢
    go_enter Try.func72, Try.ntmps72
    go_wp2_with fail
    refine (size_any a _ (by omega) (by omega)).mono ?_
    rintro e w1 ⟨rfl, rfl⟩
    go_wp2_with fail
    refine (size_any b _ (by omega) (by omega)).mono ?_
    rintro e w1 ⟨rfl, rfl⟩
    go_wp2_with fail
    refine (HM.out _).mono ?_
    rintro e w1 ⟨rfl, rfl⟩
    go_wp2_with fail
    refine bodyPost_ret (by first | (simp [results, Try.results72, go_sem, hA, hB, hO]; done) | (simp [results, Try.results72, go_sem, hA, hB, hO]; omega)) rfl ⟨rfl, ?_⟩
    exact Kp.alloc _ _ _
end Go.Proofs.Ytamjhpdgclbfgaa

namespace Go.Kq
open Go.RowKit

section
variable {P : Program} {Q : Exit → Act → World → Prop} {l : List Oper} {i j : Nat} {o x : Oper} {t : Tmp} {want b : Bool} {a : Act} {w : World} {K : Act → World → Prop}
theorem yielded_of (hj : l[j]? = some x) (hx : x.dst = some t) (hv : a.tmps.getD t undef = .bool b) : yielded l.toArray a.tmps j = some b := by
  have h1 : a.tmps[t]? = some (.bool b) := by
    cases h : a.tmps[t]? with
    | none =>
      rw [Array.getD_eq_getD_getElem?, h] at hv
      cases hv
    | some u =>
      rw [Array.getD_eq_getD_getElem?, h] at hv
      exact congrArg some hv
  have h2 : l.toArray[j]? = some x := by simpa using hj
  unfold yielded
  rw [h2]
  simp only [Option.bind_some, hx, h1]
theorem wpOp_run (ho : l[i]? = some o) (hg : o.guard = some (j, want)) (hj : l[j]? = some x) (hx : x.dst = some t) (hv : a.tmps.getD t undef = .bool want) (h : o.wp P a w K Q) : wpOp P l.toArray Q i K a w := by
  unfold wpOp
  have h2 : l.toArray[i]? = some o := by simpa using ho
  rw [h2]
  have h3 : Region.wanted o (yielded l.toArray a.tmps) = true := by
    unfold Region.wanted
    simp only [hg, yielded_of hj hx hv, beq_self_eq_true]
  simp only [h3, if_true]
  exact .inl h
end
end Go.Kq

namespace Go.Kq
open Go.RowKit

/-- Facts that outlive calls. -/
def Stab (F : Nat → World → Value → Prop) : Prop := ∀ i u w w', Kp No w w' → F i w u → F i w' u
/-- The world while a region runs that only calls and reads: F i w u is said of the result u of operation i. -/
structure HvW (base : World) (F : Nat → World → Value → Prop) (r : Nat → Option Value) (w : World) : Prop where
  kp : Kp No base w
  hv : ∀ i u, r i = some u → F i w u
section
variable {base w w' : World} {F : Nat → World → Value → Prop} {r : Nat → Option Value}
theorem HvW.start (base : World) (F : Nat → World → Value → Prop) : HvW base F (fun _ => none) base.drew := ⟨Kp.drew _ _, fun _ _ h => (by cases h)⟩
theorem HvW.upd (h : HvW base F r w) (i : Nat) (v : Value) (hf : F i w v) : HvW base F (Kq.upd r i v) w :=
  ⟨h.kp, fun j u hu => by
    by_cases e : j = i
    · subst e
      rw [upd_same] at hu
      cases hu
      exact hf
    · rw [upd_ne _ _ e] at hu
      exact h.hv j u hu⟩
theorem HvW.call (h : HvW base F r w) (hF : Stab F) (k : Kp No w w') : HvW base F r w' := ⟨h.kp.tr k, fun i u hu => hF i u w w' k (h.hv i u hu)⟩
end
/-- The same with one store into block B: operation st stores what operation src gave. -/
structure HvS (base : World) (B : Nat) (t : TypeId) (zero : Array Value) (st src : Nat) (F : Nat → World → Value → Prop) (r : Nat → Option Value) (w : World) : Prop where
  kp : Kp (One B) base w
  b0 : r st = none → w.heap[B]? = some (.cells zero t (0, 0))
  b1 : r st ≠ none → ∃ cs, r src = some (.agg cs) ∧ w.heap[B]? = some (.cells cs t (0, 0))
  hv : ∀ i u, r i = some u → F i w u
section
variable {base w w' : World} {B : Nat} {t : TypeId} {zero : Array Value} {st src : Nat} {F : Nat → World → Value → Prop} {r : Nat → Option Value}
theorem HvS.start (h : base.heap[B]? = some (.cells zero t (0, 0))) : HvS base B t zero st src F (fun _ => none) base.drew := ⟨Kp.drew _ _, fun _ => h, fun h => absurd rfl h, fun _ _ h => (by cases h)⟩
theorem HvS.upd (h : HvS base B t zero st src F r w) (i : Nat) (v : Value) (hr : r i = none) (hi : i ≠ st) (hf : F i w v) : HvS base B t zero st src F (Kq.upd r i v) w := by
  have e1 : Kq.upd r i v st = r st := upd_ne _ _ (fun e => hi e.symm)
  refine ⟨h.kp, by rw [e1]; exact h.b0, fun hs => ?_, fun j u hu => ?_⟩
  · rw [e1] at hs
    obtain ⟨cs, h1, h2⟩ := h.b1 hs
    exact ⟨cs, by rw [upd_ne _ _ (fun e => by rw [e, hr] at h1; cases h1)]; exact h1, h2⟩
  · by_cases e : j = i
    · subst e
      rw [upd_same] at hu
      cases hu
      exact hf
    · rw [upd_ne _ _ e] at hu
      exact h.hv j u hu
theorem HvS.call (h : HvS base B t zero st src F r w) (hF : Stab F) (k : Kp No w w') : HvS base B t zero st src F r w' :=
  ⟨h.kp.no k, fun hs => k.heap (h.b0 hs) id, fun hs => by
    obtain ⟨cs, h1, h2⟩ := h.b1 hs
    exact ⟨cs, h1, k.heap h2 id⟩, fun i u hu => hF i u w w' k (h.hv i u hu)⟩
theorem HvS.store (h : HvS base B t zero st src F r w) (hF : ∀ i u w w', Kp (One B) w w' → F i w u → F i w' u) (hne : src ≠ st) {cs : Array Value} (hu : r src = some (.agg cs)) (hk : Kp (One B) w w') (hh : w'.heap[B]? = some (.cells cs t (0, 0))) (v : Value) (hf : F st w' v) :
    HvS base B t zero st src F (Kq.upd r st v) w' := by
  refine ⟨h.kp.tr hk, fun hs => ?_, fun _ => ⟨cs, by rw [upd_ne _ _ hne]; exact hu, hh⟩, fun j u hj => ?_⟩
  · rw [upd_same] at hs
    cases hs
  · by_cases e : j = st
    · subst e
      rw [upd_same] at hj
      cases hj
      exact hf
    · rw [upd_ne _ _ e] at hj
      exact hF j u w w' hk (h.hv j u hj)
end
section
variable {P : Program} {Q : Exit → Act → World → Prop} {l : List Oper} {i j : Nat} {o x : Oper} {t : Tmp} {want : Bool} {a : Act} {w : World} {K : Act → World → Prop}
end
end Go.Kq
