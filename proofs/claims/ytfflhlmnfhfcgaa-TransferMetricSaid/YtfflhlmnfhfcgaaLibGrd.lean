/- Guarded operations in a region that draws its order: run or passed over. No program in sight. -/
import Derived.Test.YtfflhlmnfhfcgaaLibReg
namespace Go.Kq
open Go.RowKit

section
variable {P : Program} {Q : Exit → Act → World → Prop} {l : List Oper} {i j : Nat} {o x : Oper} {t : Tmp} {want b : Bool} {a : Act} {w : World} {K : Act → World → Prop}
theorem yielded_of (hj : l[j]? = some x) (hx : x.dst = some t) (hv : a.tmps.getD t undef = .bool b) : yielded l.toArray a.tmps j = some b := by
  have h1 : a.tmps[t]? = some (.bool b) := by
    cases h : a.tmps[t]? with
    | none =>
      rw [Array.getD_eq_getD_getElem?, h] at hv
      cases hv
    | some u =>
      rw [Array.getD_eq_getD_getElem?, h] at hv
      exact congrArg some hv
  have h2 : l.toArray[j]? = some x := by simpa using hj
  unfold yielded
  rw [h2]
  simp only [Option.bind_some, hx, h1]
theorem wpOp_run (ho : l[i]? = some o) (hg : o.guard = some (j, want)) (hj : l[j]? = some x) (hx : x.dst = some t) (hv : a.tmps.getD t undef = .bool want) (h : o.wp P a w K Q) : wpOp P l.toArray Q i K a w := by
  unfold wpOp
  have h2 : l.toArray[i]? = some o := by simpa using ho
  rw [h2]
  have h3 : Region.wanted o (yielded l.toArray a.tmps) = true := by
    unfold Region.wanted
    simp only [hg, yielded_of hj hx hv, beq_self_eq_true]
  simp only [h3, if_true]
  exact .inl h
theorem wpOp_skip (ho : l[i]? = some o) (hg : o.guard = some (j, want)) (hj : l[j]? = some x) (hx : x.dst = some t) (hv : a.tmps.getD t undef = .bool b) (hb : b ≠ want) (h : K (a.put o.dst undef) w) : wpOp P l.toArray Q i K a w := by
  unfold wpOp
  have h2 : l.toArray[i]? = some o := by simpa using ho
  rw [h2]
  have h3 : Region.wanted o (yielded l.toArray a.tmps) = false := by
    unfold Region.wanted
    simp only [hg, yielded_of hj hx hv]
    simpa using hb
  simp only [h3]
  exact h
/-- A slot that only one operation of the region writes, which has not run. -/
def onlyB (l : List Oper) (t : Tmp) (i : Nat) : Bool := (List.range l.length).all fun j => decide (j = i) || match l[j]? with
  | some o => match o.dst with
    | some d => decide (d ≠ t)
    | none => true
  | none => true
theorem Fr.evalLate {a0 : Act} {r : Nat → Option Value} (h : Fr l.toArray a0 r a) (t : Tmp) (i : Nat) (hf : onlyB l t i = true) (hr : r i = none) : a.tmps.getD t undef = a0.tmps.getD t undef := by
  have := h.rest t fun j o hj ho => by
    have hj' : l[j]? = some o := by simpa using hj
    have hlt := (List.getElem?_eq_some_iff.1 hj').1
    have h1 := List.all_eq_true.1 hf j (List.mem_range.2 hlt)
    rw [hj'] at h1
    simp only [ho] at h1
    by_cases e : j = i
    · rw [e]
      exact hr
    · simp [e] at h1
  simp [this]
end
end Go.Kq
