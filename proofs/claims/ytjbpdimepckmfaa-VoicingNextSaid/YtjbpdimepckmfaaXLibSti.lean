/- A region that draws its order, loads, and stores one cell: the world while it runs. No program in sight. -/
import Derived.Test.YtjbpdimepckmfaaXLibRegIn
import Derived.Test.YtjbpdimepckmfaaXLibAppM
namespace Go.Kq
open Go.RowKit
/-- Operation st stores val at p; it comes behind operation a, that behind operation b. -/
structure StI (base : World) (p : Addr) (val : Value) (st a b : Nat) (r : Nat → Option Value) (w : World) : Prop where
  b0 : r st = none → w = base.drew
  b1 : r st ≠ none → w = base.drew.setCell p val
  c1 : r st ≠ none → r a ≠ none
  c2 : r a ≠ none → r b ≠ none
section
variable {base w : World} {p : Addr} {val : Value} {st a b : Nat} {r : Nat → Option Value}
theorem StI.start (base : World) (p : Addr) (val : Value) (st a b : Nat) : StI base p val st a b (fun _ => none) base.drew := ⟨fun _ => rfl, fun h => absurd rfl h, fun h => absurd rfl h, fun h => absurd rfl h⟩
theorem StI.upd (h : StI base p val st a b r w) (i : Nat) (v : Value) (h1 : i ≠ st) (h2 : i ≠ a) : StI base p val st a b (Kq.upd r i v) w := by
  have e1 : Kq.upd r i v st = r st := upd_ne _ _ (fun e => h1 e.symm)
  have e2 : Kq.upd r i v a = r a := upd_ne _ _ (fun e => h2 e.symm)
  refine ⟨by rw [e1]; exact h.b0, by rw [e1]; exact h.b1, by rw [e1, e2]; exact h.c1, fun hh => ?_⟩
  rw [e2] at hh
  by_cases e : b = i
  · rw [e, upd_same]
    simp
  · rw [upd_ne _ _ e]
    exact h.c2 hh
theorem StI.updA (h : StI base p val st a b r w) (v : Value) (h1 : a ≠ st) (hb : r b ≠ none) : StI base p val st a b (Kq.upd r a v) w := by
  have e1 : Kq.upd r a v st = r st := upd_ne _ _ (fun e => h1 e.symm)
  refine ⟨by rw [e1]; exact h.b0, by rw [e1]; exact h.b1, fun _ => by rw [upd_same]; simp, fun _ => ?_⟩
  by_cases e : b = a
  · rw [e, upd_same]
    simp
  · rw [upd_ne _ _ e]
    exact hb
theorem StI.store (h : StI base p val st a b r w) (hr : r st = none) (h1 : a ≠ st) (h2 : b ≠ st) (ha : r a ≠ none) (v : Value) : StI base p val st a b (Kq.upd r st v) (w.setCell p val) := by
  refine ⟨fun hh => ?_, fun _ => by rw [h.b0 hr], fun _ => by rw [upd_ne _ _ h1]; exact ha, fun hh => ?_⟩
  · rw [upd_same] at hh
    cases hh
  · rw [upd_ne _ _ h1] at hh
    rw [upd_ne _ _ h2]
    exact h.c2 hh
theorem StI.early (h : StI base p val st a b r w) (hr : r b = none) : w = base.drew := by
  refine h.b0 ?_
  cases hs : r st with
  | none => rfl
  | some u => exact absurd hr (h.c2 (h.c1 (by rw [hs]; simp)))
theorem StI.kp (h : StI base p val st a b r w) : Kp (One p.block) base w := by
  cases hs : r st with
  | none => rw [h.b0 hs]; exact Kp.drew _ _
  | some u => rw [h.b1 (by rw [hs]; simp)]; exact (Kp.drew _ _).tr (Kp.setCell _ _ _ _ fun _ => rfl)
theorem StI.at_ (h : StI base p val st a b r w) {q : Addr} {u : Value} (hc : base.cell? q = some u) (hne : q.block ≠ p.block) : w.cell? q = some u := h.kp.cell hc hne
end
end Go.Kq
