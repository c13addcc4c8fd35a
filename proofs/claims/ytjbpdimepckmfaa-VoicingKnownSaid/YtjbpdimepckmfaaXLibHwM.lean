/- 'append(append([]T{}, l...), x)' in a region that draws its order. No program in sight. · Values that a region draws and holds, and one box that it makes and fills: an invariant for wp_region_each. No program in sight. -/
import Derived.Test.YtjbpdimepckmfaaXLibReg
import Derived.Test.YtjbpdimepckmfaaXLibMapWM
import Derived.Test.YtjbpdimepckmfaaXLibApR
import Derived.Test.YtjbpdimepckmfaaXLibHvM
namespace Go.Kq
open Go.RowKit
/-- Operation 0 lays an empty row, 2 appends xs (n elements), 4 lays what is new (one element), 5 appends it. -/
structure Ap2 (w0 : World) (e : TypeId) (s n : Nat) (xs new : List Value) (r : Nat → Option Value) (w : World) : Prop where
  kp : Kp No w0 w
  c0 : ∀ u, r 0 = some u → r 2 = none → w.ownsRow w0.heap.size e s u 0 []
  c2 : ∀ u, r 2 = some u → r 5 = none → w.ownsRow w0.heap.size e s u n xs
  c4 : ∀ u, r 4 = some u → r 5 = none → ∃ g, u = .slice (some ⟨g, 0, none⟩) 1 1 ∧ g < w.heap.size ∧ (∀ j x, new[j]? = some x → w.cell? ⟨g, j, none⟩ = some x) ∧ (∀ v, r 0 = some v → r 2 = none → v.ownBlock ≠ some g) ∧ ∀ v, r 2 = some v → v.ownBlock ≠ some g
  c5 : ∀ u, r 5 = some u → w.ownsRow w0.heap.size e s u (n + 1) (xs ++ new)
  d2 : r 2 ≠ none → r 0 ≠ none
  d5 : r 5 ≠ none → r 2 ≠ none ∧ r 4 ≠ none
  c6 : ∀ u, r 6 = some u → r 5 = some u
section
variable {w0 w w' : World} {e : TypeId} {s n : Nat} {xs new : List Value} {r : Nat → Option Value}
theorem Ap2.start (w0 : World) (e : TypeId) (s n : Nat) (xs new : List Value) : Ap2 w0 e s n xs new (fun _ => none) w0.drew :=
  ⟨Kp.drew _ _, fun _ h => (by cases h), fun _ h => (by cases h), fun _ h => (by cases h), fun _ h => (by cases h), fun h => absurd rfl h, fun h => absurd rfl h, fun _ h => (by cases h)⟩
theorem none_of {p q : Option Value} (h : p ≠ none → q ≠ none) (hq : q = none) : p = none := by
  cases hp : p with
  | none => rfl
  | some u => exact absurd hq (h (by rw [hp]; simp))
theorem Ap2.upd (h : Ap2 w0 e s n xs new r w) (i : Nat) (v : Value) (h0 : i ≠ 0) (h2 : i ≠ 2) (h4 : i ≠ 4) (h5 : i ≠ 5) (h6 : i ≠ 6) : Ap2 w0 e s n xs new (Kq.upd r i v) w := by
  have e0 := upd_ne r v h0.symm
  have e2 := upd_ne r v h2.symm
  have e4 := upd_ne r v h4.symm
  have e5 := upd_ne r v h5.symm
  have e6 := upd_ne r v h6.symm
  exact ⟨h.kp, by rw [e0, e2]; exact h.c0, by rw [e2, e5]; exact h.c2, by rw [e0, e2, e4, e5]; exact h.c4, by rw [e5]; exact h.c5, by rw [e0, e2]; exact h.d2, by rw [e2, e4, e5]; exact h.d5, by rw [e5, e6]; exact h.c6⟩
theorem Ap2.upd6 (h : Ap2 w0 e s n xs new r w) {v : Value} (h5 : r 5 = some v) : Ap2 w0 e s n xs new (Kq.upd r 6 v) w := by
  have e0 := upd_ne r v (by decide : 0 ≠ 6)
  have e2 := upd_ne r v (by decide : 2 ≠ 6)
  have e4 := upd_ne r v (by decide : 4 ≠ 6)
  have e5 := upd_ne r v (by decide : 5 ≠ 6)
  exact ⟨h.kp, by rw [e0, e2]; exact h.c0, by rw [e2, e5]; exact h.c2, by rw [e0, e2, e4, e5]; exact h.c4, by rw [e5]; exact h.c5, by rw [e0, e2]; exact h.d2, by rw [e2, e4, e5]; exact h.d5, fun u hu => by
    rw [upd_same] at hu
    cases hu
    rw [e5, h5]⟩
theorem Ap2.lay0 (h : Ap2 w0 e s n xs new r w) (hr : r 0 = none) : Ap2 w0 e s n xs new (Kq.upd r 0 (.slice (some ⟨w.heap.size, 0, none⟩) 0 0)) (w.alloc (.cells #[] e)) := by
  have q2 : r 2 = none := none_of h.d2 hr
  have q5 : r 5 = none := none_of (fun h5 => (h.d5 h5).1) q2
  have e2 := upd_ne r (Value.slice (some ⟨w.heap.size, 0, none⟩) 0 0) (by decide : 2 ≠ 0)
  have e4 := upd_ne r (Value.slice (some ⟨w.heap.size, 0, none⟩) 0 0) (by decide : 4 ≠ 0)
  have e5 := upd_ne r (Value.slice (some ⟨w.heap.size, 0, none⟩) 0 0) (by decide : 5 ≠ 0)
  have ka := Kp.alloc No w (.cells #[] e)
  refine ⟨h.kp.tr ka, fun u hu _ => ?_, fun u hu => ?_, fun u hu _ => ?_, fun u hu => ?_, fun _ => by rw [upd_same]; simp, fun hh => ?_, fun u hu => ?_⟩
  · rw [upd_same] at hu
    cases hu
    exact own_empty h.kp.size
  · rw [e2, q2] at hu
    cases hu
  · rw [e4] at hu
    obtain ⟨g, h1, h2, h3, _, _⟩ := h.c4 u hu q5
    refine ⟨g, h1, Nat.lt_of_lt_of_le h2 ka.size, fun j x hj => ka.cell (h3 j x hj) id, fun v hv _ => ?_, fun v hv => ?_⟩
    · rw [upd_same] at hv
      cases hv
      intro hh
      have : w.heap.size = g := by simpa [Value.ownBlock] using hh
      omega
    · rw [e2, q2] at hv
      cases hv
  · rw [e5, q5] at hu
    cases hu
  · rw [e5, q5] at hh
    exact absurd rfl hh
  · rw [upd_ne r _ (by decide : 6 ≠ 0)] at hu
    rw [upd_ne r _ (by decide : 5 ≠ 0)]
    exact h.c6 u hu
theorem Ap2.app2 (h : Ap2 w0 e s n xs new r w) {v0 v' : Value} (hr : r 2 = none) (h0 : r 0 = some v0) (ho : w'.ownsRow w0.heap.size e s v' (0 + n) ([] ++ xs)) (hg : w.grownBy w' v0.ownBlock) (hat : v'.ownBlock = v0.ownBlock ∨ v'.ownBlock = some w.heap.size) : Ap2 w0 e s n xs new (Kq.upd r 2 v') w' := by
  have q5 : r 5 = none := none_of (fun h5 => (h.d5 h5).1) hr
  have e0 := upd_ne r v' (by decide : 0 ≠ 2)
  have e4 := upd_ne r v' (by decide : 4 ≠ 2)
  have e5 := upd_ne r v' (by decide : 5 ≠ 2)
  have hk : Kp (fun k => v0.ownBlock = some k) w w' := Kp.grown hg fun k hk _ => hk
  have hb := h.c0 v0 h0 hr
  refine ⟨h.kp.trans hk fun k hk hh => by have := (own_ge hb hh).1; omega, fun u _ hh => ?_, fun u hu _ => ?_, fun u hu _ => ?_, fun u hu => ?_, fun _ => by rw [e0, h0]; simp, fun hh => ?_, fun u hu => ?_⟩
  · rw [upd_same] at hh
    cases hh
  · rw [upd_same] at hu
    cases hu
    simpa using ho
  · rw [e4] at hu
    obtain ⟨g, h1, h2, h3, h4, _⟩ := h.c4 u hu q5
    refine ⟨g, h1, Nat.lt_of_lt_of_le h2 hk.size, fun j x hj => hk.cell (h3 j x hj) (h4 v0 h0 hr), fun v hv hh => ?_, fun v hv => ?_⟩
    · rw [upd_same] at hh
      cases hh
    · rw [upd_same] at hv
      cases hv
      rcases hat with hat | hat
      · rw [hat]
        exact h4 v0 h0 hr
      · rw [hat]
        intro hh
        injection hh with hh
        omega
  · rw [e5, q5] at hu
    cases hu
  · rw [e5, q5] at hh
    exact absurd rfl hh
  · rw [upd_ne r _ (by decide : 6 ≠ 2)] at hu
    rw [upd_ne r _ (by decide : 5 ≠ 2)]
    exact h.c6 u hu
theorem Ap2.lay4 (h : Ap2 w0 e s n xs new r w) (hr : r 4 = none) (hm : new.length ≤ maxLen) {e' : TypeId} {cs : Array Value} (hcs : cs = new.toArray) : Ap2 w0 e s n xs new (Kq.upd r 4 (.slice (some ⟨w.heap.size, 0, none⟩) 1 1)) (w.alloc (.cells cs e')) := by
  subst hcs
  have q5 : r 5 = none := none_of (fun h5 => (h.d5 h5).2) hr
  have e0 := upd_ne r (Value.slice (some ⟨w.heap.size, 0, none⟩) 1 1) (by decide : 0 ≠ 4)
  have e2 := upd_ne r (Value.slice (some ⟨w.heap.size, 0, none⟩) 1 1) (by decide : 2 ≠ 4)
  have e5 := upd_ne r (Value.slice (some ⟨w.heap.size, 0, none⟩) 1 1) (by decide : 5 ≠ 4)
  have ka := Kp.alloc No w (.cells new.toArray e')
  refine ⟨h.kp.tr ka, by rw [e0, e2]; exact fun u hu hh => ka.owns (h.c0 u hu hh) fun _ _ h => h, by rw [e2, e5]; exact fun u hu hh => ka.owns (h.c2 u hu hh) fun _ _ h => h, fun u hu _ => ?_, fun u hu => ?_, by rw [e0, e2]; exact h.d2, fun hh => ?_, fun u hu => ?_⟩
  · rw [upd_same] at hu
    cases hu
    refine ⟨w.heap.size, rfl, by simp, fun j x hj => ?_, fun v hv hh => ?_, fun v hv => ?_⟩
    · have h3 := new_cells (e := e') w new hm j x hj
      rwa [add_at, Nat.zero_add] at h3
    · rw [e0] at hv
      rw [e2] at hh
      intro hx
      have := (own_ge (h.c0 v hv hh) hx).2
      omega
    · rw [e2] at hv
      intro hx
      have := (own_ge (h.c2 v hv q5) hx).2
      omega
  · rw [e5, q5] at hu
    cases hu
  · rw [e5, q5] at hh
    exact absurd rfl hh
  · rw [upd_ne r _ (by decide : 6 ≠ 4)] at hu
    rw [upd_ne r _ (by decide : 5 ≠ 4)]
    exact h.c6 u hu
theorem Ap2.app5 (h : Ap2 w0 e s n xs new r w) {v2 v' : Value} (hr : r 5 = none) (h2 : r 2 = some v2) (h4 : r 4 ≠ none) (ho : w'.ownsRow w0.heap.size e s v' (n + 1) (xs ++ new)) (hg : w.grownBy w' v2.ownBlock) : Ap2 w0 e s n xs new (Kq.upd r 5 v') w' := by
  have e0 := upd_ne r v' (by decide : 0 ≠ 5)
  have e2 := upd_ne r v' (by decide : 2 ≠ 5)
  have e4 := upd_ne r v' (by decide : 4 ≠ 5)
  have hk : Kp (fun k => v2.ownBlock = some k) w w' := Kp.grown hg fun k hk _ => hk
  have hb := h.c2 v2 h2 hr
  refine ⟨h.kp.trans hk fun k hk hh => by have := (own_ge hb hh).1; omega, fun u _ hh => ?_, fun u _ hh => ?_, fun u _ hh => ?_, fun u hu => ?_, by rw [e0, e2]; exact h.d2, fun _ => by rw [e2, e4]; exact ⟨by rw [h2]; simp, h4⟩, fun u hu => ?_⟩
  · rw [e2, h2] at hh
    cases hh
  · rw [upd_same] at hh
    cases hh
  · rw [upd_same] at hh
    cases hh
  · rw [upd_same] at hu
    cases hu
    exact ho
  · rw [upd_ne r v' (by decide : 6 ≠ 5)] at hu
    have := h.c6 u hu
    rw [hr] at this
    cases this
theorem Ap2.fin (h : Ap2 w0 e s n xs new r w) (hr : r 5 ≠ none) : ∃ u, r 5 = some u ∧ w.ownsRow w0.heap.size e s u (n + 1) (xs ++ new) ∧ Kp No w0 w ∧ ∀ v, r 6 = some v → v = u := by
  cases h5 : r 5 with
  | none => exact absurd h5 hr
  | some u => exact ⟨u, rfl, h.c5 u h5, h.kp, fun v hv => by have := h.c6 v hv; rw [h5] at this; exact (Option.some.inj this).symm⟩
end
end Go.Kq

namespace Go.Kq
open Go.RowKit

/-- Operation ai makes a box, operation st stores into it what operation src gave. -/
structure HvA (base : World) (t : TypeId) (zero : Array Value) (ai st src : Nat) (F : Nat → World → Value → Prop) (r : Nat → Option Value) (w : World) : Prop where
  kp : Kp No base w
  b0 : r st = none → ∀ u, r ai = some u → ∃ g, u = .pointer (some ⟨g, 0, none⟩) ∧ base.heap.size ≤ g ∧ w.heap[g]? = some (.cells zero t (0, 0))
  b1 : r st ≠ none → ∃ g cs, r ai = some (.pointer (some ⟨g, 0, none⟩)) ∧ base.heap.size ≤ g ∧ r src = some (.agg cs) ∧ w.heap[g]? = some (.cells cs t (0, 0))
  hv : ∀ i u, r i = some u → F i w u
section
variable {base w w' : World} {t : TypeId} {zero : Array Value} {ai st src : Nat} {F : Nat → World → Value → Prop} {r : Nat → Option Value}
theorem HvA.start (base : World) (t : TypeId) (zero : Array Value) (ai st src : Nat) (F : Nat → World → Value → Prop) : HvA base t zero ai st src F (fun _ => none) base.drew :=
  ⟨Kp.drew _ _, fun _ _ h => (by cases h), fun h => absurd rfl h, fun _ _ h => (by cases h)⟩
theorem hv_upd {F : Nat → World → Value → Prop} {r : Nat → Option Value} {w : World} (h : ∀ i u, r i = some u → F i w u) (i : Nat) (v : Value) (hf : F i w v) : ∀ j u, Kq.upd r i v j = some u → F j w u := fun j u hu => by
  by_cases e : j = i
  · subst e
    rw [upd_same] at hu
    cases hu
    exact hf
  · rw [upd_ne _ _ e] at hu
    exact h j u hu
theorem HvA.upd (h : HvA base t zero ai st src F r w) (i : Nat) (v : Value) (hr : r i = none) (hi : i ≠ st) (ha : i ≠ ai) (hf : F i w v) : HvA base t zero ai st src F (Kq.upd r i v) w := by
  have e1 : Kq.upd r i v st = r st := upd_ne _ _ (fun e => hi e.symm)
  have e2 : Kq.upd r i v ai = r ai := upd_ne _ _ (fun e => ha e.symm)
  refine ⟨h.kp, by rw [e1, e2]; exact h.b0, fun hs => ?_, hv_upd h.hv i v hf⟩
  rw [e1] at hs
  obtain ⟨g, cs, h1, h2, h3, h4⟩ := h.b1 hs
  exact ⟨g, cs, by rw [e2]; exact h1, h2, by rw [upd_ne _ _ (fun e => by rw [e, hr] at h3; cases h3)]; exact h3, h4⟩
theorem HvA.call (h : HvA base t zero ai st src F r w) (hF : Stab F) (k : Kp No w w') : HvA base t zero ai st src F r w' :=
  ⟨h.kp.tr k, fun hs u hu => by
    obtain ⟨g, h1, h2, h3⟩ := h.b0 hs u hu
    exact ⟨g, h1, h2, k.heap h3 id⟩, fun hs => by
    obtain ⟨g, cs, h1, h2, h3, h4⟩ := h.b1 hs
    exact ⟨g, cs, h1, h2, h3, k.heap h4 id⟩, fun i u hu => hF i u w w' k (h.hv i u hu)⟩
theorem HvA.alloc (h : HvA base t zero ai st src F r w) (hF : Stab F) (hr : r ai = none) (hne : ai ≠ st) (hf : F ai (w.alloc (.cells zero t)) (.pointer (some ⟨w.heap.size, 0, none⟩))) : HvA base t zero ai st src F (Kq.upd r ai (.pointer (some ⟨w.heap.size, 0, none⟩))) (w.alloc (.cells zero t)) := by
  have e1 : Kq.upd r ai (.pointer (some ⟨w.heap.size, 0, none⟩)) st = r st := upd_ne _ _ (fun e => hne e.symm)
  refine ⟨h.kp.tr (Kp.alloc _ _ _), fun hs u hu => ?_, fun hs => ?_, hv_upd (fun i u hu => hF i u _ _ (Kp.alloc No w _) (h.hv i u hu)) _ _ hf⟩
  · rw [upd_same] at hu
    cases hu
    exact ⟨_, rfl, h.kp.size, heap_alloc_new w _⟩
  · rw [e1] at hs
    obtain ⟨g, cs, h1, _⟩ := h.b1 hs
    rw [hr] at h1
    cases h1
theorem HvA.store (h : HvA base t zero ai st src F r w) {g : Nat} {cs : Array Value} (ha : r ai = some (.pointer (some ⟨g, 0, none⟩))) (hg : base.heap.size ≤ g) (hF : ∀ i u, F i w u → F i w' u) (hne : src ≠ st) (hne2 : ai ≠ st) (hu : r src = some (.agg cs)) (hk : Kp (One g) w w') (hh : w'.heap[g]? = some (.cells cs t (0, 0))) (v : Value) (hf : F st w' v) :
    HvA base t zero ai st src F (Kq.upd r st v) w' :=
  ⟨h.kp.trans hk (fun k hk e => by unfold One at e; omega), fun hs => (by rw [upd_same] at hs; cases hs), fun _ => ⟨g, cs, by rw [upd_ne _ _ hne2]; exact ha, hg, by rw [upd_ne _ _ hne]; exact hu, hh⟩, hv_upd (fun i u hu => hF i u (h.hv i u hu)) _ _ hf⟩
end
end Go.Kq
