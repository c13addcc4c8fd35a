/- The laws on maps at the operations of a walk inside a fence. · The law on a store into a map, inside a fence. -/
import Derived.Sort.MapsRangeIn
import Derived.RangeFuncSeq
import Derived.Maps.OwnIn
import Derived.Test.YtjbpdimepckmfaaXLibMap
namespace Go.Kq
open Go.RowKit
section
variable {κ ν : Type} {ek : κ → Value} {ev : ν → Value}
variable {F : Fence} {n : Nat} {P : Program} (w : World) {ops : Array Oper} {rest : List Oper} {o : Oper} {a : Act} {Q : Exit → Act → World → Prop} {b : Nat} {E : List (κ × ν)}

theorem wpLIn_range (hg : o.guard = none) (m : Operand) (t : TypeId) (hop : o.op = Op.range t m) {kt e : TypeId} (ht : P.underlying t = some (.map kt e)) (hmap : MapAt w b ek ev E) (hm : a.eval m = .map (some b))
    (hK : ∀ w', RangeAt w' b w.heap.size ek ev E [] → w.grownBy w' none → w'.heap.size = w.heap.size + 1 → wpListIn F n P ops Q rest (a.put o.dst (.pointer (some ⟨w.heap.size, 0, none⟩))) w') : wpListIn F n P ops Q (o :: rest) a w := by
  refine wpListIn_plain hg fun K' hK' => ?_
  obtain ⟨w', hrun, h1, h2, h3⟩ := hmap.run_range (P := P) ht
  unfold Oper.wpIn
  refine ⟨?_, ?_⟩
  · simp [Oper.about, hop]
  · rw [Oper.semAt_plain F _ _ (by rw [hop]; intro c hc'; cases hc')]
    simp [execOp, hop, hm, hrun, Result.andThen]
    exact hK' _ _ (hK w' h1 h2 h3)

theorem wpLIn_next (hg : o.guard = none) (it : Operand) (hop : o.op = Op.next it false) {kt : TypeId} (L : KeyOk P kt ek) {r : Nat} {S : List κ} (h : RangeAt w b r ek ev E S) (hit : a.eval it = .pointer (some ⟨r, 0, none⟩))
    (hDone : (∀ k ∈ keys E, k ∈ S) → wpListIn F n P ops Q rest (a.put o.dst (.tuple #[.bool false])) w)
    (hMore : ∀ k v w', (k, v) ∈ E → k ∉ S → RangeAt w' b r ek ev E (k :: S) → w.grownBy w' (some r) → w'.heap.size = w.heap.size → (Instr.entry (.pointer (some ⟨r, 0, none⟩))).run P w' = .ok (.tuple #[ek k, ev v]) w' →
      wpListIn F n P ops Q rest (a.put o.dst (.tuple #[.bool true, ek k, ev v])) w') : wpListIn F n P ops Q (o :: rest) a w := by
  refine wpListIn_plain hg fun K' hK' => ?_
  unfold Oper.wpIn
  refine ⟨by simp [Oper.about, hop], ?_⟩
  rw [Oper.semAt_plain F _ _ (by rw [hop]; intro c hc'; cases hc')]
  rcases h.run_next (P := P) L o.type with ⟨h1, hrun⟩ | ⟨k, v, w', h1, h2, hrun, h3, h4, h5, h6⟩
  · simp [execOp, hop, hit, hrun, Result.andThen]
    exact hK' _ _ (hDone h1)
  · simp [execOp, hop, hit, hrun, Result.andThen]
    exact hK' _ _ (hMore k v w' h1 h2 h3 h4 h5 h6)

/-- A range lies as it lay where the map's and the iterator's blocks do. -/
theorem RangeAt.of_walks {w w' : World} {r : Nat} {S : List κ} (h : RangeAt w b r ek ev E S) (hk : KeepsWalks w w') : RangeAt w' b r ek ev E S := by
  obtain ⟨es, clock, since, seen, c0, hm, hr, rest⟩ := h
  exact ⟨es, clock, since, seen, c0, ⟨hk.same _ _ hm.at_ rfl, hm.list, hm.stamped⟩, hk.same _ _ hr rfl, rest⟩
theorem RangeAt.iter_walk {w : World} {r : Nat} {S : List κ} (h : RangeAt w b r ek ev E S) : ∃ o : Obj, w.heap[r]? = some o ∧ o.isWalk = true := by
  obtain ⟨es, clock, since, seen, c0, hm, hr, rest⟩ := h
  exact ⟨_, hr, rfl⟩
end
end Go.Kq

namespace Go.Kq
open Go.RowKit
section
variable {κ ν : Type} [DecidableEq κ] {ek : κ → Value} {ev : ν → Value}
variable {F : Fence} {n : Nat} {P : Program} (w : World) {ops : Array Oper} {rest : List Oper} {o : Oper} {a : Act} {Q : Exit → Act → World → Prop} {b : Nat} {E : List (κ × ν)}
theorem wpLIn_update (hg : o.guard = none) (m x v : Operand) (t : TypeId) (hop : o.op = Op.mapUpdate t m x v) {kt e : TypeId} (L : KeyOk P kt ek) (ht : P.underlying t = some (.map kt e))
    (hmap : MapAt w b ek ev E) (k : κ) (u : ν) (hm : a.eval m = .map (some b)) (hx : a.eval x = ek k) (hv : a.eval v = ev u)
    (hK : ∀ w', MapAt w' b ek ev (ins k u E) → w.grownBy w' (some b) → w'.heap.size = w.heap.size → wpListIn F n P ops Q rest (a.put o.dst undef) w') : wpListIn F n P ops Q (o :: rest) a w := by
  refine wpListIn_plain hg fun K' hK' => ?_
  obtain ⟨w', hrun, h1, h2, h3⟩ := hmap.run_update L ht k u
  unfold Oper.wpIn
  refine ⟨by simp [Oper.about, hop], ?_⟩
  rw [Oper.semAt_plain F _ _ (by rw [hop]; intro c hc'; cases hc')]
  simp [execOp, hop, hm, hx, hv, hrun, Result.andThen]
  exact hK' _ _ (hK w' h1 h2 h3)
end
end Go.Kq
