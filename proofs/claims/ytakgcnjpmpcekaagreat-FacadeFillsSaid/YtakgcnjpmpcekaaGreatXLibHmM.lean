/- Guarded operations in a region that draws its order: run or passed over. No program in sight. · Values that a region draws and holds, with facts of the world: invariants for wp_region_each. No program in sight. · Values that a region draws and holds while a fact of the world stays: an invariant for wp_region_each. No program in sight. -/
import Derived.Test.YtakgcnjpmpcekaaGreatXLibReg
import Derived.Test.YtakgcnjpmpcekaaGreatXLibAppM
namespace Go.Kq
open Go.RowKit

section
variable {P : Program} {Q : Exit → Act → World → Prop} {l : List Oper} {i j : Nat} {o x : Oper} {t : Tmp} {want b : Bool} {a : Act} {w : World} {K : Act → World → Prop}
theorem yielded_of (hj : l[j]? = some x) (hx : x.dst = some t) (hv : a.tmps.getD t undef = .bool b) : yielded l.toArray a.tmps j = some b := by
  have h1 : a.tmps[t]? = some (.bool b) := by
    cases h : a.tmps[t]? with
    | none =>
      rw [Array.getD_eq_getD_getElem?, h] at hv
      cases hv
    | some u =>
      rw [Array.getD_eq_getD_getElem?, h] at hv
      exact congrArg some hv
  have h2 : l.toArray[j]? = some x := by simpa using hj
  unfold yielded
  rw [h2]
  simp only [Option.bind_some, hx, h1]
theorem wpOp_run (ho : l[i]? = some o) (hg : o.guard = some (j, want)) (hj : l[j]? = some x) (hx : x.dst = some t) (hv : a.tmps.getD t undef = .bool want) (h : o.wp P a w K Q) : wpOp P l.toArray Q i K a w := by
  unfold wpOp
  have h2 : l.toArray[i]? = some o := by simpa using ho
  rw [h2]
  have h3 : Region.wanted o (yielded l.toArray a.tmps) = true := by
    unfold Region.wanted
    simp only [hg, yielded_of hj hx hv, beq_self_eq_true]
  simp only [h3, if_true]
  exact .inl h
theorem wpOp_skip (ho : l[i]? = some o) (hg : o.guard = some (j, want)) (hj : l[j]? = some x) (hx : x.dst = some t) (hv : a.tmps.getD t undef = .bool b) (hb : b ≠ want) (h : K (a.put o.dst undef) w) : wpOp P l.toArray Q i K a w := by
  unfold wpOp
  have h2 : l.toArray[i]? = some o := by simpa using ho
  rw [h2]
  have h3 : Region.wanted o (yielded l.toArray a.tmps) = false := by
    unfold Region.wanted
    simp only [hg, yielded_of hj hx hv]
    simpa using hb
  simp only [h3]
  exact h
/-- A slot that only one operation of the region writes, which has not run. -/
def onlyB (l : List Oper) (t : Tmp) (i : Nat) : Bool := (List.range l.length).all fun j => decide (j = i) || match l[j]? with
  | some o => match o.dst with
    | some d => decide (d ≠ t)
    | none => true
  | none => true
theorem Fr.evalLate {a0 : Act} {r : Nat → Option Value} (h : Fr l.toArray a0 r a) (t : Tmp) (i : Nat) (hf : onlyB l t i = true) (hr : r i = none) : a.tmps.getD t undef = a0.tmps.getD t undef := by
  have := h.rest t fun j o hj ho => by
    have hj' : l[j]? = some o := by simpa using hj
    have hlt := (List.getElem?_eq_some_iff.1 hj').1
    have h1 := List.all_eq_true.1 hf j (List.mem_range.2 hlt)
    rw [hj'] at h1
    simp only [ho] at h1
    by_cases e : j = i
    · rw [e]
      exact hr
    · simp [e] at h1
  simp [this]
end
end Go.Kq

namespace Go.Kq
open Go.RowKit

/-- Facts that outlive calls. -/
def Stab (F : Nat → World → Value → Prop) : Prop := ∀ i u w w', Kp No w w' → F i w u → F i w' u
/-- The world while a region runs that only calls and reads: F i w u is said of the result u of operation i. -/
structure HvW (base : World) (F : Nat → World → Value → Prop) (r : Nat → Option Value) (w : World) : Prop where
  kp : Kp No base w
  hv : ∀ i u, r i = some u → F i w u
section
variable {base w w' : World} {F : Nat → World → Value → Prop} {r : Nat → Option Value}
theorem HvW.start (base : World) (F : Nat → World → Value → Prop) : HvW base F (fun _ => none) base.drew := ⟨Kp.drew _ _, fun _ _ h => (by cases h)⟩
theorem HvW.upd (h : HvW base F r w) (i : Nat) (v : Value) (hf : F i w v) : HvW base F (Kq.upd r i v) w :=
  ⟨h.kp, fun j u hu => by
    by_cases e : j = i
    · subst e
      rw [upd_same] at hu
      cases hu
      exact hf
    · rw [upd_ne _ _ e] at hu
      exact h.hv j u hu⟩
theorem HvW.call (h : HvW base F r w) (hF : Stab F) (k : Kp No w w') : HvW base F r w' := ⟨h.kp.tr k, fun i u hu => hF i u w w' k (h.hv i u hu)⟩
end
/-- The same with one store into block B: operation st stores what operation src gave. -/
structure HvS (base : World) (B : Nat) (t : TypeId) (zero : Array Value) (st src : Nat) (F : Nat → World → Value → Prop) (r : Nat → Option Value) (w : World) : Prop where
  kp : Kp (One B) base w
  b0 : r st = none → w.heap[B]? = some (.cells zero t (0, 0))
  b1 : r st ≠ none → ∃ cs, r src = some (.agg cs) ∧ w.heap[B]? = some (.cells cs t (0, 0))
  hv : ∀ i u, r i = some u → F i w u
section
variable {base w w' : World} {B : Nat} {t : TypeId} {zero : Array Value} {st src : Nat} {F : Nat → World → Value → Prop} {r : Nat → Option Value}
theorem HvS.start (h : base.heap[B]? = some (.cells zero t (0, 0))) : HvS base B t zero st src F (fun _ => none) base.drew := ⟨Kp.drew _ _, fun _ => h, fun h => absurd rfl h, fun _ _ h => (by cases h)⟩
theorem HvS.upd (h : HvS base B t zero st src F r w) (i : Nat) (v : Value) (hr : r i = none) (hi : i ≠ st) (hf : F i w v) : HvS base B t zero st src F (Kq.upd r i v) w := by
  have e1 : Kq.upd r i v st = r st := upd_ne _ _ (fun e => hi e.symm)
  refine ⟨h.kp, by rw [e1]; exact h.b0, fun hs => ?_, fun j u hu => ?_⟩
  · rw [e1] at hs
    obtain ⟨cs, h1, h2⟩ := h.b1 hs
    exact ⟨cs, by rw [upd_ne _ _ (fun e => by rw [e, hr] at h1; cases h1)]; exact h1, h2⟩
  · by_cases e : j = i
    · subst e
      rw [upd_same] at hu
      cases hu
      exact hf
    · rw [upd_ne _ _ e] at hu
      exact h.hv j u hu
theorem HvS.call (h : HvS base B t zero st src F r w) (hF : Stab F) (k : Kp No w w') : HvS base B t zero st src F r w' :=
  ⟨h.kp.no k, fun hs => k.heap (h.b0 hs) id, fun hs => by
    obtain ⟨cs, h1, h2⟩ := h.b1 hs
    exact ⟨cs, h1, k.heap h2 id⟩, fun i u hu => hF i u w w' k (h.hv i u hu)⟩
theorem HvS.store (h : HvS base B t zero st src F r w) (hF : ∀ i u w w', Kp (One B) w w' → F i w u → F i w' u) (hne : src ≠ st) {cs : Array Value} (hu : r src = some (.agg cs)) (hk : Kp (One B) w w') (hh : w'.heap[B]? = some (.cells cs t (0, 0))) (v : Value) (hf : F st w' v) :
    HvS base B t zero st src F (Kq.upd r st v) w' := by
  refine ⟨h.kp.tr hk, fun hs => ?_, fun _ => ⟨cs, by rw [upd_ne _ _ hne]; exact hu, hh⟩, fun j u hj => ?_⟩
  · rw [upd_same] at hs
    cases hs
  · by_cases e : j = st
    · subst e
      rw [upd_same] at hj
      cases hj
      exact hf
    · rw [upd_ne _ _ e] at hj
      exact hF j u w w' hk (h.hv j u hj)
end
section
variable {P : Program} {Q : Exit → Act → World → Prop} {l : List Oper} {i j : Nat} {o x : Oper} {t : Tmp} {want : Bool} {a : Act} {w : World} {K : Act → World → Prop}
/-- An operation whose guard was itself passed over. -/
theorem wpOp_skipU (ho : l[i]? = some o) (hg : o.guard = some (j, want)) (hj : l[j]? = some x) (hx : x.dst = some t) (hv : a.tmps.getD t undef = undef) (h : K (a.put o.dst undef) w) : wpOp P l.toArray Q i K a w := by
  unfold wpOp
  have h2 : l.toArray[i]? = some o := by simpa using ho
  have h4 : l.toArray[j]? = some x := by simpa using hj
  rw [h2]
  have h3 : Region.wanted o (yielded l.toArray a.tmps) = false := by
    unfold Region.wanted
    simp only [hg]
    unfold yielded
    rw [h4]
    simp only [Option.bind_some, hx]
    cases h5 : a.tmps[t]? with
    | none => simp
    | some u =>
      rw [Array.getD_eq_getD_getElem?, h5] at hv
      simp at hv
      subst hv
      rfl
  simp only [h3]
  exact h
end
end Go.Kq

namespace Go.Kq
open Go.RowKit

/-- M is said of the world at each step, F i w u of the result u of operation i. -/
structure HvM (M : World → Prop) (F : Nat → World → Value → Prop) (r : Nat → Option Value) (w : World) : Prop where
  m : M w
  hv : ∀ i u, r i = some u → F i w u
section
variable {w w' : World} {M : World → Prop} {F : Nat → World → Value → Prop} {r : Nat → Option Value}
theorem HvM.start (F : Nat → World → Value → Prop) (h : M w) : HvM M F (fun _ => none) w := ⟨h, fun _ _ h => (by cases h)⟩
theorem HvM.upd (h : HvM M F r w) (i : Nat) (v : Value) (hf : F i w v) : HvM M F (Kq.upd r i v) w :=
  ⟨h.m, fun j u hu => by
    by_cases e : j = i
    · subst e
      rw [upd_same] at hu
      cases hu
      exact hf
    · rw [upd_ne _ _ e] at hu
      exact h.hv j u hu⟩
theorem HvM.call (h : HvM M F r w) (hm : M w') (hs : ∀ i u, F i w u → F i w' u) : HvM M F r w' := ⟨hm, fun i u hu => hs i u (h.hv i u hu)⟩
end
end Go.Kq
