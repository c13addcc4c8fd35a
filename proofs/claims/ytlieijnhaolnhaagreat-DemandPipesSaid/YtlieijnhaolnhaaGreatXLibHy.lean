/- As LibHv's HvS (one store into a box), with a chain of what comes behind what, so that reads of the box lie ahead of the store. No program in sight. -/
import Derived.Test.YtlieijnhaolnhaaGreatXLibHxM
namespace Go.Kq
open Go.RowKit

structure HvT (base : World) (B : Nat) (t : TypeId) (zero : Array Value) (st src : Nat) (ch : List (Nat × Nat)) (F : Nat → World → Value → Prop) (r : Nat → Option Value) (w : World) : Prop where
  s : HvS base B t zero st src F r w
  bl : ∀ p ∈ ch, r p.1 ≠ none → r p.2 ≠ none
section
variable {base w w' : World} {B : Nat} {t : TypeId} {zero : Array Value} {st src : Nat} {ch : List (Nat × Nat)} {F : Nat → World → Value → Prop} {r : Nat → Option Value}
theorem HvT.kp (h : HvT base B t zero st src ch F r w) : Kp (One B) base w := h.s.kp
theorem HvT.b0 (h : HvT base B t zero st src ch F r w) (e : r st = none) : w.heap[B]? = some (.cells zero t (0, 0)) := h.s.b0 e
theorem HvT.b1 (h : HvT base B t zero st src ch F r w) (e : r st ≠ none) : ∃ cs, r src = some (.agg cs) ∧ w.heap[B]? = some (.cells cs t (0, 0)) := h.s.b1 e
theorem HvT.hv (h : HvT base B t zero st src ch F r w) : ∀ i u, r i = some u → F i w u := h.s.hv
theorem HvT.start (h : base.heap[B]? = some (.cells zero t (0, 0))) : HvT base B t zero st src ch F (fun _ => none) base.drew := ⟨HvS.start h, fun _ _ h => absurd rfl h⟩
theorem HvT.back (h : HvT base B t zero st src ch F r w) (x : Nat) {y : Nat} (hp : (x, y) ∈ ch) (hy : r y = none) : r x = none :=
  Classical.byContradiction fun e => h.bl _ hp e hy
theorem HvT.updL (h : HvT base B t zero st src ch F r w) (i : Nat) (v : Value) (hr : r i = none) (hi : i ≠ st) (hc : ∀ p ∈ ch, p.1 = i → r p.2 ≠ none) (hf : F i w v) : HvT base B t zero st src ch F (Kq.upd r i v) w :=
  ⟨h.s.upd i v hr hi hf, chain_upd h.bl hc⟩
theorem HvT.upd (h : HvT base B t zero st src ch F r w) (i : Nat) (v : Value) (hr : r i = none) (hi : i ≠ st) (hc : ∀ p ∈ ch, p.1 ≠ i) (hf : F i w v) : HvT base B t zero st src ch F (Kq.upd r i v) w :=
  h.updL i v hr hi (fun p hp e => absurd e (hc p hp)) hf
theorem HvT.call (h : HvT base B t zero st src ch F r w) (hF : Stab F) (k : Kp No w w') : HvT base B t zero st src ch F r w' := ⟨h.s.call hF k, h.bl⟩
theorem HvT.store (h : HvT base B t zero st src ch F r w) (hF : ∀ i u w w', Kp (One B) w w' → F i w u → F i w' u) (hne : src ≠ st) {cs : Array Value} (hu : r src = some (.agg cs)) (hc : ∀ p ∈ ch, p.1 = st → r p.2 ≠ none) (hk : Kp (One B) w w') (hh : w'.heap[B]? = some (.cells cs t (0, 0))) (v : Value) (hf : F st w' v) :
    HvT base B t zero st src ch F (Kq.upd r st v) w' := ⟨h.s.store hF hne hu hk hh v hf, chain_upd h.bl hc⟩
end
end Go.Kq
