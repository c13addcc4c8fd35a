/- Chapter 27: what Check says of a record (plain). -/
import Derived.Test.YtjbpdimepckmfaaXVaP
import Derived.Test.YtjbpdimepckmfaaXCmp
namespace Go.Proofs.Ytjbpdimepckmfaa
open Go.RowKit Go.Kq

/-- How many works of a worker. -/
def many (l : List Wk) (k : Int) : Nat := (l.filter fun v => decide (v.wk = k)).length
theorem many_snoc (l : List Wk) (v : Wk) (k : Int) : many (l ++ [v]) k = many l k + if v.wk = k then 1 else 0 := by
  unfold many
  rw [List.filter_append, List.length_append]
  by_cases h : v.wk = k <;> simp [h]
theorem many_le (l : List Wk) (k : Int) : many l k ≤ l.length := List.length_filter_le _ _
/-- Is the work in its order and is its number right, behind the works ahead of it? -/
def stepOk (pre : List Wk) (v : Wk) : Bool :=
  (match pre.getLast? with
    | none => true
    | some u => ltW u v) && decide (v.num = (many pre v.wk : Int) + 1)
def ordOk : List Wk → List Wk → Bool
  | _, [] => true
  | pre, v :: l => stepOk pre v && ordOk (pre ++ [v]) l
def chkL (l : List Wk) : Int := if 400 < l.length then 3 else if l.all okW then if ordOk [] l then 0 else 6 else 2
theorem ordOk_at : ∀ (l pre : List Wk), ordOk pre l = true ↔ ∀ (i : Nat) (v : Wk), l[i]? = some v → stepOk (pre ++ l.take i) v = true
  | [], pre => by simp [ordOk]
  | u :: l, pre => by
    rw [ordOk, Bool.and_eq_true, ordOk_at l (pre ++ [u])]
    constructor
    · rintro ⟨h0, h1⟩ i v hv
      cases i with
      | zero => simp at hv; subst hv; simpa using h0
      | succ i => have := h1 i v (by simpa using hv); simpa using this
    · intro h
      exact ⟨by simpa using h 0 u rfl, fun i v hv => by have := h (i + 1) v (by simpa using hv); simpa using this⟩
theorem ordOk_stop {l : List Wk} {i : Nat} {v : Wk} (hv : l[i]? = some v) (h : stepOk (l.take i) v = false) : ordOk [] l = false := by
  rw [← Bool.not_eq_true, ordOk_at]
  intro h2
  have := h2 i v hv
  rw [List.nil_append, h] at this
  cases this
theorem ordOk_all {l : List Wk} (h : ∀ (i : Nat) (v : Wk), l[i]? = some v → stepOk (l.take i) v = true) : ordOk [] l = true := by
  rw [ordOk_at]
  intro i v hv
  rw [List.nil_append]
  exact h i v hv
theorem take_last {l : List Wk} {i : Nat} {u : Wk} (hu : l[i]? = some u) : (l.take (i + 1)).getLast? = some u := by
  rw [List.take_add_one, hu]
  simp
theorem chk_long {l : List Wk} (h : 400 < l.length) : chkL l = 3 := by unfold chkL; rw [if_pos h]
theorem chk_arg {l : List Wk} (h : ¬ 400 < l.length) {i : Nat} {v : Wk} (hv : l[i]? = some v) (hb : okW v = false) : chkL l = 2 := by
  unfold chkL
  rw [if_neg h, if_neg]
  intro h2
  have := List.all_eq_true.1 h2 v (List.mem_of_getElem? hv)
  rw [hb] at this
  cases this
theorem chk_form {l : List Wk} (h : ¬ 400 < l.length) (ha : l.all okW = true) : chkL l = if ordOk [] l then 0 else 6 := by unfold chkL; rw [if_neg h, if_pos ha]
theorem all_at {l : List Wk} (h : ∀ (i : Nat) (v : Wk), l[i]? = some v → okW v = true) : l.all okW = true := List.all_eq_true.2 fun v hv => by
  obtain ⟨i, hi⟩ := List.getElem?_of_mem hv
  exact h i v hi
/-- The works of all texts fit into memory. -/
def Fits (l : List Wk) : Prop := ∀ v ∈ l, v.tx.size ≤ maxLen
end Go.Proofs.Ytjbpdimepckmfaa
