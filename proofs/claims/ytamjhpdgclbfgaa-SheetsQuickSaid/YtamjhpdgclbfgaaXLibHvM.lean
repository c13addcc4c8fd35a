/- cmp.Compare of integers, cmp.Or: contracts. · cmp.Compare of int64. · cmp.Or of integers. · Chapter 09: cuts, plates, spots; the nest by shelves as the program seeks it: plain. · Guarded operations in a region that draws its order: run or passed over. No program in sight. · Values that a region draws and holds, with facts of the world: invariants for wp_region_each. No program in sight. -/
import Derived.Test.YtamjhpdgclbfgaaProg
import Derived.KernelRfl
import Derived.StillTailTactics
import Derived.Test.YtamjhpdgclbfgaaXLibRowM
import Derived.Test.YtamjhpdgclbfgaaXLibReg
namespace Go.Proofs.Ytamjhpdgclbfgaa
open Go.RowKit Go.Kq

def cmpI (x y : Int) : Int := if x < y then -1 else if y < x then 1 else 0
def orL : List Int → Int
  | [] => 0
  | x :: l => if x = 0 then orL l else x
theorem isNaNI (x : Int) (w : World) : Calls Try.prog 97 #[.int .i64 x] w fun e w' => e = .returned (.bool false) ∧ w' = w := by
  go_enter Try.func97, Try.ntmps97
  go_wp2
  go_ret
  exact ⟨ret_bool (by simp), rfl⟩
set_option maxHeartbeats 1000000 in
theorem cmpI_any (x y : Int) (w : World) : Calls Try.prog 68 #[.int .i64 x, .int .i64 y] w fun e w' => e = .returned (.int .i64 (cmpI x y)) ∧ w' = w := by
  go_enter Try.func68, Try.ntmps68
  go_wp2_with (go_at_call 97; refine (isNaNI _ _).mono ?_; rintro e w' ⟨rfl, rfl⟩)
  all_goals
    go_ret
    refine ⟨ret_i64 ?_, rfl⟩
    unfold cmpI
    (repeat' split) <;> first | rfl | (exfalso; omega)
end Go.Proofs.Ytamjhpdgclbfgaa

namespace Go.Proofs.Ytamjhpdgclbfgaa
open Go.RowKit Go.Kq
theorem isNaNL (x : Int) (w : World) : Calls Try.prog 96 #[.int .i64 x] w fun e w' => e = .returned (.bool false) ∧ w' = w := by
  go_enter Try.func96, Try.ntmps96
  go_wp2
  go_ret
  exact ⟨ret_bool (by simp), rfl⟩
set_option maxHeartbeats 1000000 in
theorem cmpL_any (x y : Int) (w : World) : Calls Try.prog 67 #[.int .i64 x, .int .i64 y] w fun e w' => e = .returned (.int .i64 (cmpI x y)) ∧ w' = w := by
  go_enter Try.func67, Try.ntmps67
  go_wp2_with (go_at_call 96; refine (isNaNL _ _).mono ?_; rintro e w' ⟨rfl, rfl⟩)
  all_goals
    go_ret
    refine ⟨ret_i64 ?_, rfl⟩
    unfold cmpI
    (repeat' split) <;> first | rfl | (exfalso; omega)
end Go.Proofs.Ytamjhpdgclbfgaa

namespace Go.Proofs.Ytamjhpdgclbfgaa
open Go.RowKit Go.Kq
theorem orL_drop : ∀ (xs : List Int) (k : Nat), (∀ j x, j < k → xs[j]? = some x → x = 0) → orL xs = orL (xs.drop k)
  | [], k, _ => by simp
  | x :: xs, 0, _ => rfl
  | x :: xs, k + 1, h => by
    have h0 := h 0 x (by omega) rfl
    rw [List.drop_succ_cons, ← orL_drop xs k fun j y hj hy => h (j + 1) y (by omega) (by simpa using hy)]
    simp [orL, h0]
set_option maxHeartbeats 1000000 in
theorem or_any (A : Option Addr) (n cap : Nat) (xs : List Int) (w : World) (hx : RdI .i64 w A n xs) (hn : n ≤ 1000000) :
    Calls Try.prog 66 #[.slice A n cap] w fun e w' => e = .returned (.int .i64 (orL xs)) ∧ w' = w := by
  have hl := hx.1
  go_enter Try.func66, Try.ntmps66
  go_wp2_with fail
  go_loop [8] (fun i => ∃ k : Nat, k ≤ n ∧ i = .int .i64 k ∧ ∀ j x, j < k → xs[j]? = some x → x = 0) (fun i => n - (intOf i).toNat)
  case atStart => exact ⟨0, by omega, rfl, fun j x h => by omega⟩
  case round =>
    obtain ⟨k, hk, rfl, hz⟩ := hrel
    have HZ := Lib.hid hz
    clear hz
    by_cases hlt : k < n
    · obtain ⟨x, hxk⟩ : ∃ x, xs[k]? = some x := ⟨_, List.getElem?_eq_getElem (by omega)⟩
      obtain ⟨b, o, rfl, hb, c0⟩ := hx.2 k x hxk
      have HX := Lib.hid hxk
      clear hxk
      by_cases h0 : x = 0
      · subst h0
        go_wp2
        go_round
        case rel =>
          refine ⟨k + 1, by omega, by go_num, fun j y hj hy => ?_⟩
          by_cases e : j = k
          · subst e
            have := HX.out
            rw [hy] at this
            cases this
            rfl
          · exact HZ.out j y (by omega) hy
        case measure => simp [intOf]; omega
      · have hne : (x == 0) = false := by rw [beq_eq_false_iff_ne]; exact h0
        go_wp2
        go_ret
        refine ⟨ret_i64 ?_, rfl⟩
        rw [orL_drop xs k HZ.out, List.drop_eq_getElem_cons (by omega)]
        have := HX.out
        rw [List.getElem?_eq_getElem (by omega)] at this
        simp at this
        simp [orL, this, h0]
    · go_wp2
      go_ret
      refine ⟨ret_i64 ?_, rfl⟩
      rw [orL_drop xs k HZ.out, List.drop_of_length_le (by omega)]
      rfl
end Go.Proofs.Ytamjhpdgclbfgaa

namespace Go.Proofs.Ytamjhpdgclbfgaa

structure Ct where
  (w h : Int)
deriving DecidableEq, Inhabited
structure Pt where
  (w h k : Int)
deriving DecidableEq, Inhabited
structure Spo where
  (p s x y : Int)
deriving DecidableEq, Inhabited
/-- The heights at which shelves lie: T = how high each plate is used. -/
def yF (K : Int) : List (Nat × Int) → List Int → List Int
  | [], _ => []
  | (o, h) :: r, T => T.getD o 0 :: yF K r (T.set o (T.getD o 0 + (h + K)))
/-- The spots: X = how wide each shelf is used. -/
def spF (K : Int) (ON : List Nat) (Y : List Int) : List (Nat × Ct) → List Int → List Spo
  | [], _ => []
  | (k, c) :: r, X => ⟨(ON.getD k 0 : Nat), (k : Nat), X.getD k 0, Y.getD k 0⟩ :: spF K ON Y r (X.set k (X.getD k 0 + (c.w + K)))
def spotsF (K : Int) (l : List Ct) (S ON : List Nat) (H : List Int) (u : Nat) : List Spo :=
  spF K ON (yF K (ON.zip H) (List.replicate u 0)) (S.zip l) (List.replicate H.length 0)
abbrev Bst := Option (List Spo × Int × Int)
def cmpS (a b : Spo) : Int := orL [cmpI a.p b.p, cmpI a.s b.s]
def cmpSs : List Spo → List Spo → Int
  | [], [] => 0
  | [], _ :: _ => -1
  | _ :: _, [] => 1
  | a :: x, b :: y => if cmpS a b ≠ 0 then cmpS a b else cmpSs x y
def keepF (K : Int) (l : List Ct) (S ON : List Nat) (H U : List Int) (B : Bst) : Bst :=
  let s := spotsF K l S ON H U.length
  match B with
  | none => some (s, (U.length : Int), U.sum)
  | some (b, c, d) => if orL [cmpI U.length c, cmpI U.sum d, cmpSs s b] < 0 then some (s, (U.length : Int), U.sum) else B
def prunedB (U : List Int) (B : Bst) : Bool :=
  match B with
  | none => false
  | some (_, c, _) => decide (c < (U.length : Int))
def stackF (P : Pt) (l : List Ct) (S : List Nat) (H : List Int) : List Int → List Nat → List Int → Bst → Bst
  | [], ON, U, B => if prunedB U B then B else keepF P.k l S ON H U B
  | h :: hs, ON, U, B => if prunedB U B then B else
    stackF P l S H hs (ON ++ [U.length]) (U ++ [h]) ((List.range U.length).foldl (fun B on => if P.h < U.getD on 0 + P.k + h then B else stackF P l S H hs (ON ++ [on]) (U.set on (U.getD on 0 + P.k + h)) B) B)
def shelvesF (P : Pt) (l : List Ct) : List Ct → List Nat → List Int → List Int → Bst → Bst
  | [], S, _, H, B => stackF P l S H H [] [] B
  | x :: xs, S, W, H, B =>
    shelvesF P l xs (S ++ [W.length]) (W ++ [x.w]) (H ++ [x.h]) ((List.range W.length).foldl (fun B k => if P.w < W.getD k 0 + P.k + x.w then B else shelvesF P l xs (S ++ [k]) (W.set k (W.getD k 0 + P.k + x.w)) (H.set k (max (H.getD k 0) x.h)) B) B)
def nestF (P : Pt) (l : List Ct) : List Spo := match shelvesF P l l [] [] [] none with | some (b, _) => b | none => []
/-- The first place at which a test holds, or the length. -/
def firstI {α : Type} (p : α → Bool) : List α → Nat
  | [] => 0
  | a :: l => if p a then 0 else firstI p l + 1
structure Qs where
  (sh : List Spo) (tp : List Int) (out : List Spo)
deriving Inhabited
def qNew (P : Pt) (c : Ct) (q : Qs) : Qs :=
  let on := firstI (fun y => decide (y + c.h ≤ P.h)) q.tp
  let tp := if on = q.tp.length then q.tp ++ [0] else q.tp
  { q with sh := q.sh ++ [⟨(on : Nat), (q.sh.length : Nat), 0, tp.getD on 0⟩], tp := tp.set on (tp.getD on 0 + (c.h + P.k)) }
def qPut (P : Pt) (c : Ct) (i k : Nat) (q : Qs) : Qs :=
  let s := q.sh.getD k default
  { q with out := q.out.set i s, sh := q.sh.set k { s with x := s.x + (c.w + P.k) } }
def qStep (P : Pt) (l : List Ct) (q : Qs) (i : Nat) : Qs :=
  let c := l.getD i default
  let k := firstI (fun s : Spo => decide (s.x + c.w ≤ P.w)) q.sh
  qPut P c i k (if k = q.sh.length then qNew P c q else q)
def befF (l : List Ct) (a b : Nat) : Int := orL [cmpI (l.getD b default).h (l.getD a default).h, cmpI (l.getD b default).w (l.getD a default).w, cmpI a b]
def insF (l : List Ct) (i : Nat) : List Nat → List Nat
  | [] => [i]
  | a :: r => if befF l a i < 0 then a :: insF l i r else i :: a :: r
def ordF (l : List Ct) : List Nat := (List.range l.length).foldl (fun o i => insF l i o) []
def quickF (P : Pt) (l : List Ct) : List Spo := ((ordF l).foldl (qStep P l) ⟨[], [], List.replicate l.length default⟩).out
theorem quick_ex : quickF ⟨10, 10, 0⟩ [⟨4, 4⟩, ⟨9, 5⟩, ⟨5, 3⟩] = [⟨0, 1, 0, 5⟩, ⟨0, 0, 0, 0⟩, ⟨0, 1, 4, 5⟩] := by kernel_rfl
theorem nest_ex : nestF ⟨10, 10, 0⟩ [⟨4, 4⟩, ⟨9, 5⟩, ⟨5, 3⟩] = [⟨0, 0, 0, 0⟩, ⟨0, 1, 0, 4⟩, ⟨0, 0, 4, 0⟩] := by kernel_rfl
end Go.Proofs.Ytamjhpdgclbfgaa

namespace Go.Kq
open Go.RowKit

section
variable {P : Program} {Q : Exit → Act → World → Prop} {l : List Oper} {i j : Nat} {o x : Oper} {t : Tmp} {want b : Bool} {a : Act} {w : World} {K : Act → World → Prop}
theorem yielded_of (hj : l[j]? = some x) (hx : x.dst = some t) (hv : a.tmps.getD t undef = .bool b) : yielded l.toArray a.tmps j = some b := by
  have h1 : a.tmps[t]? = some (.bool b) := by
    cases h : a.tmps[t]? with
    | none =>
      rw [Array.getD_eq_getD_getElem?, h] at hv
      cases hv
    | some u =>
      rw [Array.getD_eq_getD_getElem?, h] at hv
      exact congrArg some hv
  have h2 : l.toArray[j]? = some x := by simpa using hj
  unfold yielded
  rw [h2]
  simp only [Option.bind_some, hx, h1]
theorem wpOp_run (ho : l[i]? = some o) (hg : o.guard = some (j, want)) (hj : l[j]? = some x) (hx : x.dst = some t) (hv : a.tmps.getD t undef = .bool want) (h : o.wp P a w K Q) : wpOp P l.toArray Q i K a w := by
  unfold wpOp
  have h2 : l.toArray[i]? = some o := by simpa using ho
  rw [h2]
  have h3 : Region.wanted o (yielded l.toArray a.tmps) = true := by
    unfold Region.wanted
    simp only [hg, yielded_of hj hx hv, beq_self_eq_true]
  simp only [h3, if_true]
  exact .inl h
theorem wpOp_skip (ho : l[i]? = some o) (hg : o.guard = some (j, want)) (hj : l[j]? = some x) (hx : x.dst = some t) (hv : a.tmps.getD t undef = .bool b) (hb : b ≠ want) (h : K (a.put o.dst undef) w) : wpOp P l.toArray Q i K a w := by
  unfold wpOp
  have h2 : l.toArray[i]? = some o := by simpa using ho
  rw [h2]
  have h3 : Region.wanted o (yielded l.toArray a.tmps) = false := by
    unfold Region.wanted
    simp only [hg, yielded_of hj hx hv]
    simpa using hb
  simp only [h3]
  exact h
/-- A slot that only one operation of the region writes, which has not run. -/
def onlyB (l : List Oper) (t : Tmp) (i : Nat) : Bool := (List.range l.length).all fun j => decide (j = i) || match l[j]? with
  | some o => match o.dst with
    | some d => decide (d ≠ t)
    | none => true
  | none => true
theorem Fr.evalLate {a0 : Act} {r : Nat → Option Value} (h : Fr l.toArray a0 r a) (t : Tmp) (i : Nat) (hf : onlyB l t i = true) (hr : r i = none) : a.tmps.getD t undef = a0.tmps.getD t undef := by
  have := h.rest t fun j o hj ho => by
    have hj' : l[j]? = some o := by simpa using hj
    have hlt := (List.getElem?_eq_some_iff.1 hj').1
    have h1 := List.all_eq_true.1 hf j (List.mem_range.2 hlt)
    rw [hj'] at h1
    simp only [ho] at h1
    by_cases e : j = i
    · rw [e]
      exact hr
    · simp [e] at h1
  simp [this]
end
end Go.Kq

namespace Go.Kq
open Go.RowKit

/-- Facts that outlive calls. -/
def Stab (F : Nat → World → Value → Prop) : Prop := ∀ i u w w', Kp No w w' → F i w u → F i w' u
/-- The world while a region runs that only calls and reads: F i w u is said of the result u of operation i. -/
structure HvW (base : World) (F : Nat → World → Value → Prop) (r : Nat → Option Value) (w : World) : Prop where
  kp : Kp No base w
  hv : ∀ i u, r i = some u → F i w u
section
variable {base w w' : World} {F : Nat → World → Value → Prop} {r : Nat → Option Value}
theorem HvW.start (base : World) (F : Nat → World → Value → Prop) : HvW base F (fun _ => none) base.drew := ⟨Kp.drew _ _, fun _ _ h => (by cases h)⟩
theorem HvW.upd (h : HvW base F r w) (i : Nat) (v : Value) (hf : F i w v) : HvW base F (Kq.upd r i v) w :=
  ⟨h.kp, fun j u hu => by
    by_cases e : j = i
    · subst e
      rw [upd_same] at hu
      cases hu
      exact hf
    · rw [upd_ne _ _ e] at hu
      exact h.hv j u hu⟩
theorem HvW.call (h : HvW base F r w) (hF : Stab F) (k : Kp No w w') : HvW base F r w' := ⟨h.kp.tr k, fun i u hu => hF i u w w' k (h.hv i u hu)⟩
end
/-- The same with one store into block B: operation st stores what operation src gave. -/
structure HvS (base : World) (B : Nat) (t : TypeId) (zero : Array Value) (st src : Nat) (F : Nat → World → Value → Prop) (r : Nat → Option Value) (w : World) : Prop where
  kp : Kp (One B) base w
  b0 : r st = none → w.heap[B]? = some (.cells zero t (0, 0))
  b1 : r st ≠ none → ∃ cs, r src = some (.agg cs) ∧ w.heap[B]? = some (.cells cs t (0, 0))
  hv : ∀ i u, r i = some u → F i w u
section
variable {base w w' : World} {B : Nat} {t : TypeId} {zero : Array Value} {st src : Nat} {F : Nat → World → Value → Prop} {r : Nat → Option Value}
theorem HvS.start (h : base.heap[B]? = some (.cells zero t (0, 0))) : HvS base B t zero st src F (fun _ => none) base.drew := ⟨Kp.drew _ _, fun _ => h, fun h => absurd rfl h, fun _ _ h => (by cases h)⟩
theorem HvS.upd (h : HvS base B t zero st src F r w) (i : Nat) (v : Value) (hr : r i = none) (hi : i ≠ st) (hf : F i w v) : HvS base B t zero st src F (Kq.upd r i v) w := by
  have e1 : Kq.upd r i v st = r st := upd_ne _ _ (fun e => hi e.symm)
  refine ⟨h.kp, by rw [e1]; exact h.b0, fun hs => ?_, fun j u hu => ?_⟩
  · rw [e1] at hs
    obtain ⟨cs, h1, h2⟩ := h.b1 hs
    exact ⟨cs, by rw [upd_ne _ _ (fun e => by rw [e, hr] at h1; cases h1)]; exact h1, h2⟩
  · by_cases e : j = i
    · subst e
      rw [upd_same] at hu
      cases hu
      exact hf
    · rw [upd_ne _ _ e] at hu
      exact h.hv j u hu
theorem HvS.call (h : HvS base B t zero st src F r w) (hF : Stab F) (k : Kp No w w') : HvS base B t zero st src F r w' :=
  ⟨h.kp.no k, fun hs => k.heap (h.b0 hs) id, fun hs => by
    obtain ⟨cs, h1, h2⟩ := h.b1 hs
    exact ⟨cs, h1, k.heap h2 id⟩, fun i u hu => hF i u w w' k (h.hv i u hu)⟩
theorem HvS.store (h : HvS base B t zero st src F r w) (hF : ∀ i u w w', Kp (One B) w w' → F i w u → F i w' u) (hne : src ≠ st) {cs : Array Value} (hu : r src = some (.agg cs)) (hk : Kp (One B) w w') (hh : w'.heap[B]? = some (.cells cs t (0, 0))) (v : Value) (hf : F st w' v) :
    HvS base B t zero st src F (Kq.upd r st v) w' := by
  refine ⟨h.kp.tr hk, fun hs => ?_, fun _ => ⟨cs, by rw [upd_ne _ _ hne]; exact hu, hh⟩, fun j u hj => ?_⟩
  · rw [upd_same] at hs
    cases hs
  · by_cases e : j = st
    · subst e
      rw [upd_same] at hj
      cases hj
      exact hf
    · rw [upd_ne _ _ e] at hj
      exact hF j u w w' hk (h.hv j u hj)
end
section
variable {P : Program} {Q : Exit → Act → World → Prop} {l : List Oper} {i j : Nat} {o x : Oper} {t : Tmp} {want : Bool} {a : Act} {w : World} {K : Act → World → Prop}
/-- An operation whose guard was itself passed over. -/
theorem wpOp_skipU (ho : l[i]? = some o) (hg : o.guard = some (j, want)) (hj : l[j]? = some x) (hx : x.dst = some t) (hv : a.tmps.getD t undef = undef) (h : K (a.put o.dst undef) w) : wpOp P l.toArray Q i K a w := by
  unfold wpOp
  have h2 : l.toArray[i]? = some o := by simpa using ho
  have h4 : l.toArray[j]? = some x := by simpa using hj
  rw [h2]
  have h3 : Region.wanted o (yielded l.toArray a.tmps) = false := by
    unfold Region.wanted
    simp only [hg]
    unfold yielded
    rw [h4]
    simp only [Option.bind_some, hx]
    cases h5 : a.tmps[t]? with
    | none => simp
    | some u =>
      rw [Array.getD_eq_getD_getElem?, h5] at hv
      simp at hv
      subst hv
      rfl
  simp only [h3]
  exact h
end
end Go.Kq
