/- Values that a region draws and holds, and one box that it makes and fills: an invariant for wp_region_each. No program in sight. -/
import Derived.Test.YtamjhpdgclbfgaaXLibHvM
namespace Go.Kq
open Go.RowKit

/-- Operation ai makes a box, operation st stores into it what operation src gave. -/
structure HvA (base : World) (t : TypeId) (zero : Array Value) (ai st src : Nat) (F : Nat → World → Value → Prop) (r : Nat → Option Value) (w : World) : Prop where
  kp : Kp No base w
  b0 : r st = none → ∀ u, r ai = some u → ∃ g, u = .pointer (some ⟨g, 0, none⟩) ∧ base.heap.size ≤ g ∧ w.heap[g]? = some (.cells zero t (0, 0))
  b1 : r st ≠ none → ∃ g cs, r ai = some (.pointer (some ⟨g, 0, none⟩)) ∧ base.heap.size ≤ g ∧ r src = some (.agg cs) ∧ w.heap[g]? = some (.cells cs t (0, 0))
  hv : ∀ i u, r i = some u → F i w u
section
variable {base w w' : World} {t : TypeId} {zero : Array Value} {ai st src : Nat} {F : Nat → World → Value → Prop} {r : Nat → Option Value}
theorem HvA.start (base : World) (t : TypeId) (zero : Array Value) (ai st src : Nat) (F : Nat → World → Value → Prop) : HvA base t zero ai st src F (fun _ => none) base.drew :=
  ⟨Kp.drew _ _, fun _ _ h => (by cases h), fun h => absurd rfl h, fun _ _ h => (by cases h)⟩
theorem hv_upd {F : Nat → World → Value → Prop} {r : Nat → Option Value} {w : World} (h : ∀ i u, r i = some u → F i w u) (i : Nat) (v : Value) (hf : F i w v) : ∀ j u, Kq.upd r i v j = some u → F j w u := fun j u hu => by
  by_cases e : j = i
  · subst e
    rw [upd_same] at hu
    cases hu
    exact hf
  · rw [upd_ne _ _ e] at hu
    exact h j u hu
theorem HvA.upd (h : HvA base t zero ai st src F r w) (i : Nat) (v : Value) (hr : r i = none) (hi : i ≠ st) (ha : i ≠ ai) (hf : F i w v) : HvA base t zero ai st src F (Kq.upd r i v) w := by
  have e1 : Kq.upd r i v st = r st := upd_ne _ _ (fun e => hi e.symm)
  have e2 : Kq.upd r i v ai = r ai := upd_ne _ _ (fun e => ha e.symm)
  refine ⟨h.kp, by rw [e1, e2]; exact h.b0, fun hs => ?_, hv_upd h.hv i v hf⟩
  rw [e1] at hs
  obtain ⟨g, cs, h1, h2, h3, h4⟩ := h.b1 hs
  exact ⟨g, cs, by rw [e2]; exact h1, h2, by rw [upd_ne _ _ (fun e => by rw [e, hr] at h3; cases h3)]; exact h3, h4⟩
theorem HvA.call (h : HvA base t zero ai st src F r w) (hF : Stab F) (k : Kp No w w') : HvA base t zero ai st src F r w' :=
  ⟨h.kp.tr k, fun hs u hu => by
    obtain ⟨g, h1, h2, h3⟩ := h.b0 hs u hu
    exact ⟨g, h1, h2, k.heap h3 id⟩, fun hs => by
    obtain ⟨g, cs, h1, h2, h3, h4⟩ := h.b1 hs
    exact ⟨g, cs, h1, h2, h3, k.heap h4 id⟩, fun i u hu => hF i u w w' k (h.hv i u hu)⟩
theorem HvA.alloc (h : HvA base t zero ai st src F r w) (hF : Stab F) (hr : r ai = none) (hne : ai ≠ st) (hf : F ai (w.alloc (.cells zero t)) (.pointer (some ⟨w.heap.size, 0, none⟩))) : HvA base t zero ai st src F (Kq.upd r ai (.pointer (some ⟨w.heap.size, 0, none⟩))) (w.alloc (.cells zero t)) := by
  have e1 : Kq.upd r ai (.pointer (some ⟨w.heap.size, 0, none⟩)) st = r st := upd_ne _ _ (fun e => hne e.symm)
  refine ⟨h.kp.tr (Kp.alloc _ _ _), fun hs u hu => ?_, fun hs => ?_, hv_upd (fun i u hu => hF i u _ _ (Kp.alloc No w _) (h.hv i u hu)) _ _ hf⟩
  · rw [upd_same] at hu
    cases hu
    exact ⟨_, rfl, h.kp.size, heap_alloc_new w _⟩
  · rw [e1] at hs
    obtain ⟨g, cs, h1, _⟩ := h.b1 hs
    rw [hr] at h1
    cases h1
theorem HvA.store (h : HvA base t zero ai st src F r w) {g : Nat} {cs : Array Value} (ha : r ai = some (.pointer (some ⟨g, 0, none⟩))) (hg : base.heap.size ≤ g) (hF : ∀ i u, F i w u → F i w' u) (hne : src ≠ st) (hne2 : ai ≠ st) (hu : r src = some (.agg cs)) (hk : Kp (One g) w w') (hh : w'.heap[g]? = some (.cells cs t (0, 0))) (v : Value) (hf : F st w' v) :
    HvA base t zero ai st src F (Kq.upd r st v) w' :=
  ⟨h.kp.trans hk (fun k hk e => by unfold One at e; omega), fun hs => (by rw [upd_same] at hs; cases hs), fun _ => ⟨g, cs, by rw [upd_ne _ _ hne2]; exact ha, hg, by rw [upd_ne _ _ hne]; exact hu, hh⟩, hv_upd (fun i u hu => hF i u (h.hv i u hu)) _ _ hf⟩
end
end Go.Kq
