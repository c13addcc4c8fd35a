/- cmp.Compare of integers, cmp.Or: contracts. · cmp.Compare of int64. · cmp.Or of integers. · Chapter 09: cuts, plates, spots; the nest by shelves as the program seeks it: plain. -/
import Derived.Test.YtamjhpdgclbfgaaProg
import Derived.KernelRfl
import Derived.StillTailTactics
import Derived.Test.YtamjhpdgclbfgaaXLibRowM
namespace Go.Proofs.Ytamjhpdgclbfgaa
open Go.RowKit Go.Kq

def cmpI (x y : Int) : Int := if x < y then -1 else if y < x then 1 else 0
def orL : List Int → Int
  | [] => 0
  | x :: l => if x = 0 then orL l else x
theorem isNaNI (x : Int) (w : World) : Calls Try.prog 97 #[.int .i64 x] w fun e w' => e = .returned (.bool false) ∧ w' = w := by
  go_enter Try.func97, Try.ntmps97
  go_wp2
  go_ret
  exact ⟨ret_bool (by simp), rfl⟩
set_option maxHeartbeats 1000000 in
theorem cmpI_any (x y : Int) (w : World) : Calls Try.prog 68 #[.int .i64 x, .int .i64 y] w fun e w' => e = .returned (.int .i64 (cmpI x y)) ∧ w' = w := by
  go_enter Try.func68, Try.ntmps68
  go_wp2_with (go_at_call 97; refine (isNaNI _ _).mono ?_; rintro e w' ⟨rfl, rfl⟩)
  all_goals
    go_ret
    refine ⟨ret_i64 ?_, rfl⟩
    unfold cmpI
    (repeat' split) <;> first | rfl | (exfalso; omega)
end Go.Proofs.Ytamjhpdgclbfgaa

namespace Go.Proofs.Ytamjhpdgclbfgaa
open Go.RowKit Go.Kq
theorem isNaNL (x : Int) (w : World) : Calls Try.prog 96 #[.int .i64 x] w fun e w' => e = .returned (.bool false) ∧ w' = w := by
  go_enter Try.func96, Try.ntmps96
  go_wp2
  go_ret
  exact ⟨ret_bool (by simp), rfl⟩
set_option maxHeartbeats 1000000 in
theorem cmpL_any (x y : Int) (w : World) : Calls Try.prog 67 #[.int .i64 x, .int .i64 y] w fun e w' => e = .returned (.int .i64 (cmpI x y)) ∧ w' = w := by
  go_enter Try.func67, Try.ntmps67
  go_wp2_with (go_at_call 96; refine (isNaNL _ _).mono ?_; rintro e w' ⟨rfl, rfl⟩)
  all_goals
    go_ret
    refine ⟨ret_i64 ?_, rfl⟩
    unfold cmpI
    (repeat' split) <;> first | rfl | (exfalso; omega)
end Go.Proofs.Ytamjhpdgclbfgaa

namespace Go.Proofs.Ytamjhpdgclbfgaa
open Go.RowKit Go.Kq
theorem orL_drop : ∀ (xs : List Int) (k : Nat), (∀ j x, j < k → xs[j]? = some x → x = 0) → orL xs = orL (xs.drop k)
  | [], k, _ => by simp
  | x :: xs, 0, _ => rfl
  | x :: xs, k + 1, h => by
    have h0 := h 0 x (by omega) rfl
    rw [List.drop_succ_cons, ← orL_drop xs k fun j y hj hy => h (j + 1) y (by omega) (by simpa using hy)]
    simp [orL, h0]
set_option maxHeartbeats 1000000 in
theorem or_any (A : Option Addr) (n cap : Nat) (xs : List Int) (w : World) (hx : RdI .i64 w A n xs) (hn : n ≤ 1000000) :
    Calls Try.prog 66 #[.slice A n cap] w fun e w' => e = .returned (.int .i64 (orL xs)) ∧ w' = w := by
  have hl := hx.1
  go_enter Try.func66, Try.ntmps66
  go_wp2_with fail
  go_loop [8] (fun i => ∃ k : Nat, k ≤ n ∧ i = .int .i64 k ∧ ∀ j x, j < k → xs[j]? = some x → x = 0) (fun i => n - (intOf i).toNat)
  case atStart => exact ⟨0, by omega, rfl, fun j x h => by omega⟩
  case round =>
    obtain ⟨k, hk, rfl, hz⟩ := hrel
    have HZ := Lib.hid hz
    clear hz
    by_cases hlt : k < n
    · obtain ⟨x, hxk⟩ : ∃ x, xs[k]? = some x := ⟨_, List.getElem?_eq_getElem (by omega)⟩
      obtain ⟨b, o, rfl, hb, c0⟩ := hx.2 k x hxk
      have HX := Lib.hid hxk
      clear hxk
      by_cases h0 : x = 0
      · subst h0
        go_wp2
        go_round
        case rel =>
          refine ⟨k + 1, by omega, by go_num, fun j y hj hy => ?_⟩
          by_cases e : j = k
          · subst e
            have := HX.out
            rw [hy] at this
            cases this
            rfl
          · exact HZ.out j y (by omega) hy
        case measure => simp [intOf]; omega
      · have hne : (x == 0) = false := by rw [beq_eq_false_iff_ne]; exact h0
        go_wp2
        go_ret
        refine ⟨ret_i64 ?_, rfl⟩
        rw [orL_drop xs k HZ.out, List.drop_eq_getElem_cons (by omega)]
        have := HX.out
        rw [List.getElem?_eq_getElem (by omega)] at this
        simp at this
        simp [orL, this, h0]
    · go_wp2
      go_ret
      refine ⟨ret_i64 ?_, rfl⟩
      rw [orL_drop xs k HZ.out, List.drop_of_length_le (by omega)]
      rfl
end Go.Proofs.Ytamjhpdgclbfgaa

namespace Go.Proofs.Ytamjhpdgclbfgaa

structure Ct where
  (w h : Int)
deriving DecidableEq, Inhabited
structure Pt where
  (w h k : Int)
deriving DecidableEq, Inhabited
structure Spo where
  (p s x y : Int)
deriving DecidableEq, Inhabited
/-- The heights at which shelves lie: T = how high each plate is used. -/
def yF (K : Int) : List (Nat × Int) → List Int → List Int
  | [], _ => []
  | (o, h) :: r, T => T.getD o 0 :: yF K r (T.set o (T.getD o 0 + (h + K)))
/-- The spots: X = how wide each shelf is used. -/
def spF (K : Int) (ON : List Nat) (Y : List Int) : List (Nat × Ct) → List Int → List Spo
  | [], _ => []
  | (k, c) :: r, X => ⟨(ON.getD k 0 : Nat), (k : Nat), X.getD k 0, Y.getD k 0⟩ :: spF K ON Y r (X.set k (X.getD k 0 + (c.w + K)))
def spotsF (K : Int) (l : List Ct) (S ON : List Nat) (H : List Int) (u : Nat) : List Spo :=
  spF K ON (yF K (ON.zip H) (List.replicate u 0)) (S.zip l) (List.replicate H.length 0)
abbrev Bst := Option (List Spo × Int × Int)
def cmpS (a b : Spo) : Int := orL [cmpI a.p b.p, cmpI a.s b.s]
def cmpSs : List Spo → List Spo → Int
  | [], [] => 0
  | [], _ :: _ => -1
  | _ :: _, [] => 1
  | a :: x, b :: y => if cmpS a b ≠ 0 then cmpS a b else cmpSs x y
def keepF (K : Int) (l : List Ct) (S ON : List Nat) (H U : List Int) (B : Bst) : Bst :=
  let s := spotsF K l S ON H U.length
  match B with
  | none => some (s, (U.length : Int), U.sum)
  | some (b, c, d) => if orL [cmpI U.length c, cmpI U.sum d, cmpSs s b] < 0 then some (s, (U.length : Int), U.sum) else B
def prunedB (U : List Int) (B : Bst) : Bool :=
  match B with
  | none => false
  | some (_, c, _) => decide (c < (U.length : Int))
def stackF (P : Pt) (l : List Ct) (S : List Nat) (H : List Int) : List Int → List Nat → List Int → Bst → Bst
  | [], ON, U, B => if prunedB U B then B else keepF P.k l S ON H U B
  | h :: hs, ON, U, B => if prunedB U B then B else
    stackF P l S H hs (ON ++ [U.length]) (U ++ [h]) ((List.range U.length).foldl (fun B on => if P.h < U.getD on 0 + P.k + h then B else stackF P l S H hs (ON ++ [on]) (U.set on (U.getD on 0 + P.k + h)) B) B)
def shelvesF (P : Pt) (l : List Ct) : List Ct → List Nat → List Int → List Int → Bst → Bst
  | [], S, _, H, B => stackF P l S H H [] [] B
  | x :: xs, S, W, H, B =>
    shelvesF P l xs (S ++ [W.length]) (W ++ [x.w]) (H ++ [x.h]) ((List.range W.length).foldl (fun B k => if P.w < W.getD k 0 + P.k + x.w then B else shelvesF P l xs (S ++ [k]) (W.set k (W.getD k 0 + P.k + x.w)) (H.set k (max (H.getD k 0) x.h)) B) B)
def nestF (P : Pt) (l : List Ct) : List Spo := match shelvesF P l l [] [] [] none with | some (b, _) => b | none => []
/-- The first place at which a test holds, or the length. -/
def firstI {α : Type} (p : α → Bool) : List α → Nat
  | [] => 0
  | a :: l => if p a then 0 else firstI p l + 1
structure Qs where
  (sh : List Spo) (tp : List Int) (out : List Spo)
deriving Inhabited
def qNew (P : Pt) (c : Ct) (q : Qs) : Qs :=
  let on := firstI (fun y => decide (y + c.h ≤ P.h)) q.tp
  let tp := if on = q.tp.length then q.tp ++ [0] else q.tp
  { q with sh := q.sh ++ [⟨(on : Nat), (q.sh.length : Nat), 0, tp.getD on 0⟩], tp := tp.set on (tp.getD on 0 + (c.h + P.k)) }
def qPut (P : Pt) (c : Ct) (i k : Nat) (q : Qs) : Qs :=
  let s := q.sh.getD k default
  { q with out := q.out.set i s, sh := q.sh.set k { s with x := s.x + (c.w + P.k) } }
def qStep (P : Pt) (l : List Ct) (q : Qs) (i : Nat) : Qs :=
  let c := l.getD i default
  let k := firstI (fun s : Spo => decide (s.x + c.w ≤ P.w)) q.sh
  qPut P c i k (if k = q.sh.length then qNew P c q else q)
def befF (l : List Ct) (a b : Nat) : Int := orL [cmpI (l.getD b default).h (l.getD a default).h, cmpI (l.getD b default).w (l.getD a default).w, cmpI a b]
def insF (l : List Ct) (i : Nat) : List Nat → List Nat
  | [] => [i]
  | a :: r => if befF l a i < 0 then a :: insF l i r else i :: a :: r
def ordF (l : List Ct) : List Nat := (List.range l.length).foldl (fun o i => insF l i o) []
def quickF (P : Pt) (l : List Ct) : List Spo := ((ordF l).foldl (qStep P l) ⟨[], [], List.replicate l.length default⟩).out
theorem quick_ex : quickF ⟨10, 10, 0⟩ [⟨4, 4⟩, ⟨9, 5⟩, ⟨5, 3⟩] = [⟨0, 1, 0, 5⟩, ⟨0, 0, 0, 0⟩, ⟨0, 1, 4, 5⟩] := by kernel_rfl
theorem nest_ex : nestF ⟨10, 10, 0⟩ [⟨4, 4⟩, ⟨9, 5⟩, ⟨5, 3⟩] = [⟨0, 0, 0, 0⟩, ⟨0, 1, 0, 4⟩, ⟨0, 0, 4, 0⟩] := by kernel_rfl
end Go.Proofs.Ytamjhpdgclbfgaa
