/- Chapter 27: what Check says of a record (plain). · A region that draws its order, loads, and stores one cell: the world while it runs. No program in sight. -/
import Derived.Test.YtjbpdimepckmfaaXLibSortM
import Derived.Test.YtjbpdimepckmfaaXCmp
import Derived.Test.YtjbpdimepckmfaaXLibRegInM
import Derived.Test.YtjbpdimepckmfaaXLibAppM
namespace Go.Proofs.Ytjbpdimepckmfaa
open Go.RowKit Go.Kq

/-- How many works of a worker. -/
def many (l : List Wk) (k : Int) : Nat := (l.filter fun v => decide (v.wk = k)).length
theorem many_snoc (l : List Wk) (v : Wk) (k : Int) : many (l ++ [v]) k = many l k + if v.wk = k then 1 else 0 := by
  unfold many
  rw [List.filter_append, List.length_append]
  by_cases h : v.wk = k <;> simp [h]
theorem many_le (l : List Wk) (k : Int) : many l k ≤ l.length := List.length_filter_le _ _
/-- Is the work in its order and is its number right, behind the works ahead of it? -/
def stepOk (pre : List Wk) (v : Wk) : Bool :=
  (match pre.getLast? with
    | none => true
    | some u => ltW u v) && decide (v.num = (many pre v.wk : Int) + 1)
def ordOk : List Wk → List Wk → Bool
  | _, [] => true
  | pre, v :: l => stepOk pre v && ordOk (pre ++ [v]) l
def chkL (l : List Wk) : Int := if 400 < l.length then 3 else if l.all okW then if ordOk [] l then 0 else 6 else 2
theorem ordOk_at : ∀ (l pre : List Wk), ordOk pre l = true ↔ ∀ (i : Nat) (v : Wk), l[i]? = some v → stepOk (pre ++ l.take i) v = true
  | [], pre => by simp [ordOk]
  | u :: l, pre => by
    rw [ordOk, Bool.and_eq_true, ordOk_at l (pre ++ [u])]
    constructor
    · rintro ⟨h0, h1⟩ i v hv
      cases i with
      | zero => simp at hv; subst hv; simpa using h0
      | succ i => have := h1 i v (by simpa using hv); simpa using this
    · intro h
      exact ⟨by simpa using h 0 u rfl, fun i v hv => by have := h (i + 1) v (by simpa using hv); simpa using this⟩
theorem ordOk_stop {l : List Wk} {i : Nat} {v : Wk} (hv : l[i]? = some v) (h : stepOk (l.take i) v = false) : ordOk [] l = false := by
  rw [← Bool.not_eq_true, ordOk_at]
  intro h2
  have := h2 i v hv
  rw [List.nil_append, h] at this
  cases this
theorem ordOk_all {l : List Wk} (h : ∀ (i : Nat) (v : Wk), l[i]? = some v → stepOk (l.take i) v = true) : ordOk [] l = true := by
  rw [ordOk_at]
  intro i v hv
  rw [List.nil_append]
  exact h i v hv
theorem take_last {l : List Wk} {i : Nat} {u : Wk} (hu : l[i]? = some u) : (l.take (i + 1)).getLast? = some u := by
  rw [List.take_add_one, hu]
  simp
theorem chk_long {l : List Wk} (h : 400 < l.length) : chkL l = 3 := by unfold chkL; rw [if_pos h]
theorem chk_arg {l : List Wk} (h : ¬ 400 < l.length) {i : Nat} {v : Wk} (hv : l[i]? = some v) (hb : okW v = false) : chkL l = 2 := by
  unfold chkL
  rw [if_neg h, if_neg]
  intro h2
  have := List.all_eq_true.1 h2 v (List.mem_of_getElem? hv)
  rw [hb] at this
  cases this
theorem chk_form {l : List Wk} (h : ¬ 400 < l.length) (ha : l.all okW = true) : chkL l = if ordOk [] l then 0 else 6 := by unfold chkL; rw [if_neg h, if_pos ha]
theorem all_at {l : List Wk} (h : ∀ (i : Nat) (v : Wk), l[i]? = some v → okW v = true) : l.all okW = true := List.all_eq_true.2 fun v hv => by
  obtain ⟨i, hi⟩ := List.getElem?_of_mem hv
  exact h i v hi
/-- The works of all texts fit into memory. -/
def Fits (l : List Wk) : Prop := ∀ v ∈ l, v.tx.size ≤ maxLen
end Go.Proofs.Ytjbpdimepckmfaa

namespace Go.Kq
open Go.RowKit
/-- Operation st stores val at p; it comes behind operation a, that behind operation b. -/
structure StI (base : World) (p : Addr) (val : Value) (st a b : Nat) (r : Nat → Option Value) (w : World) : Prop where
  b0 : r st = none → w = base.drew
  b1 : r st ≠ none → w = base.drew.setCell p val
  c1 : r st ≠ none → r a ≠ none
  c2 : r a ≠ none → r b ≠ none
section
variable {base w : World} {p : Addr} {val : Value} {st a b : Nat} {r : Nat → Option Value}
theorem StI.start (base : World) (p : Addr) (val : Value) (st a b : Nat) : StI base p val st a b (fun _ => none) base.drew := ⟨fun _ => rfl, fun h => absurd rfl h, fun h => absurd rfl h, fun h => absurd rfl h⟩
theorem StI.upd (h : StI base p val st a b r w) (i : Nat) (v : Value) (h1 : i ≠ st) (h2 : i ≠ a) : StI base p val st a b (Kq.upd r i v) w := by
  have e1 : Kq.upd r i v st = r st := upd_ne _ _ (fun e => h1 e.symm)
  have e2 : Kq.upd r i v a = r a := upd_ne _ _ (fun e => h2 e.symm)
  refine ⟨by rw [e1]; exact h.b0, by rw [e1]; exact h.b1, by rw [e1, e2]; exact h.c1, fun hh => ?_⟩
  rw [e2] at hh
  by_cases e : b = i
  · rw [e, upd_same]
    simp
  · rw [upd_ne _ _ e]
    exact h.c2 hh
theorem StI.updA (h : StI base p val st a b r w) (v : Value) (h1 : a ≠ st) (hb : r b ≠ none) : StI base p val st a b (Kq.upd r a v) w := by
  have e1 : Kq.upd r a v st = r st := upd_ne _ _ (fun e => h1 e.symm)
  refine ⟨by rw [e1]; exact h.b0, by rw [e1]; exact h.b1, fun _ => by rw [upd_same]; simp, fun _ => ?_⟩
  by_cases e : b = a
  · rw [e, upd_same]
    simp
  · rw [upd_ne _ _ e]
    exact hb
theorem StI.store (h : StI base p val st a b r w) (hr : r st = none) (h1 : a ≠ st) (h2 : b ≠ st) (ha : r a ≠ none) (v : Value) : StI base p val st a b (Kq.upd r st v) (w.setCell p val) := by
  refine ⟨fun hh => ?_, fun _ => by rw [h.b0 hr], fun _ => by rw [upd_ne _ _ h1]; exact ha, fun hh => ?_⟩
  · rw [upd_same] at hh
    cases hh
  · rw [upd_ne _ _ h1] at hh
    rw [upd_ne _ _ h2]
    exact h.c2 hh
theorem StI.early (h : StI base p val st a b r w) (hr : r b = none) : w = base.drew := by
  refine h.b0 ?_
  cases hs : r st with
  | none => rfl
  | some u => exact absurd hr (h.c2 (h.c1 (by rw [hs]; simp)))
theorem StI.kp (h : StI base p val st a b r w) : Kp (One p.block) base w := by
  cases hs : r st with
  | none => rw [h.b0 hs]; exact Kp.drew _ _
  | some u => rw [h.b1 (by rw [hs]; simp)]; exact (Kp.drew _ _).tr (Kp.setCell _ _ _ _ fun _ => rfl)
theorem StI.at_ (h : StI base p val st a b r w) {q : Addr} {u : Value} (hc : base.cell? q = some u) (hne : q.block ≠ p.block) : w.cell? q = some u := h.kp.cell hc hne
end
end Go.Kq
