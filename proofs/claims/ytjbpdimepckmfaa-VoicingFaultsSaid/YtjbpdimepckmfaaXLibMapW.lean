/- The laws on maps at the operations of a walk. -/
import Derived.Maps.RangeWalk
import Derived.Test.YtjbpdimepckmfaaXLibMap
namespace Go.Kq
open Go.RowKit
section
variable {κ ν : Type} [DecidableEq κ] {ek : κ → Value} {ev : ν → Value}
variable {P : Program} (w : World) {ops : Array Oper} {rest : List Oper} {o : Oper} {a : Act} {Q : Exit → Act → World → Prop} {b : Nat} {E : List (κ × ν)}

theorem wpL_lookup (hg : o.guard = none) (m x : Operand) (t : TypeId) (hop : o.op = Op.lookup t m x false) {kt e : TypeId} (L : KeyOk P kt ek) (ht : P.underlying t = some (.map kt e)) {z : ν} (hz : (zeroValue e).run P w = .ok (ev z) w)
    (hmap : MapAt w b ek ev E) (k : κ) (hm : a.eval m = .map (some b)) (hx : a.eval x = ek k) (hK : wpList P ops Q rest (a.put o.dst (ev ((get1 E k).getD z))) w) : wpList P ops Q (o :: rest) a w := by
  refine wpList_plain hg fun K' hK' => ?_
  have hrun := hmap.run_lookup L ht hz k false
  unfold Oper.wp
  simp only [execOp, hop, hm, hx, Sem.run_bind, hrun, Result.andThen]
  exact hK' _ _ hK

theorem wpL_update (hg : o.guard = none) (m x v : Operand) (t : TypeId) (hop : o.op = Op.mapUpdate t m x v) {kt e : TypeId} (L : KeyOk P kt ek) (ht : P.underlying t = some (.map kt e))
    (hmap : MapAt w b ek ev E) (k : κ) (u : ν) (hm : a.eval m = .map (some b)) (hx : a.eval x = ek k) (hv : a.eval v = ev u)
    (hK : ∀ w', MapAt w' b ek ev (ins k u E) → w.grownBy w' (some b) → w'.heap.size = w.heap.size → wpList P ops Q rest (a.put o.dst undef) w') : wpList P ops Q (o :: rest) a w := by
  refine wpList_plain hg fun K' hK' => ?_
  obtain ⟨w', hrun, h1, h2, h3⟩ := hmap.run_update L ht k u
  unfold Oper.wp
  simp only [execOp, hop, hm, hx, hv, Sem.run_bind, hrun, Result.andThen]
  exact hK' _ _ (hK w' h1 h2 h3)

omit [DecidableEq κ] in
theorem wpL_range (hg : o.guard = none) (m : Operand) (t : TypeId) (hop : o.op = Op.range t m) {kt e : TypeId} (ht : P.underlying t = some (.map kt e)) (hmap : MapAt w b ek ev E) (hm : a.eval m = .map (some b))
    (hK : ∀ w', RangeAt w' b w.heap.size ek ev E [] → w.grownBy w' none → w'.heap.size = w.heap.size + 1 → wpList P ops Q rest (a.put o.dst (.pointer (some ⟨w.heap.size, 0, none⟩))) w') : wpList P ops Q (o :: rest) a w := by
  refine wpList_plain hg fun K' hK' => ?_
  obtain ⟨w', hrun, h1, h2, h3⟩ := hmap.run_range (P := P) ht
  unfold Oper.wp
  simp only [execOp, hop, hm, Sem.run_bind, hrun, Result.andThen]
  exact hK' _ _ (hK w' h1 h2 h3)

omit [DecidableEq κ] in
theorem wpL_next (hg : o.guard = none) (it : Operand) (hop : o.op = Op.next it false) {kt : TypeId} (L : KeyOk P kt ek) {r : Nat} {S : List κ} (h : RangeAt w b r ek ev E S) (hit : a.eval it = .pointer (some ⟨r, 0, none⟩))
    (hDone : (∀ k ∈ keys E, k ∈ S) → wpList P ops Q rest (a.put o.dst (.tuple #[.bool false])) w)
    (hMore : ∀ k v w', (k, v) ∈ E → k ∉ S → RangeAt w' b r ek ev E (k :: S) → w.grownBy w' (some r) → w'.heap.size = w.heap.size → (Instr.entry (.pointer (some ⟨r, 0, none⟩))).run P w' = .ok (.tuple #[ek k, ev v]) w' →
      wpList P ops Q rest (a.put o.dst (.tuple #[.bool true, ek k, ev v])) w') : wpList P ops Q (o :: rest) a w := by
  refine wpList_plain hg fun K' hK' => ?_
  unfold Oper.wp
  rcases h.run_next (P := P) L o.type with ⟨h1, hrun⟩ | ⟨k, v, w', h1, h2, hrun, h3, h4, h5, h6⟩
  · simp only [execOp, hop, hit, Sem.run_bind, hrun, Result.andThen]
    exact hK' _ _ (hDone h1)
  · simp only [execOp, hop, hit, Sem.run_bind, hrun, Result.andThen]
    exact hK' _ _ (hMore k v w' h1 h2 h3 h4 h5 h6)
end

/-! ### 'm[k] op= v' inside a region that draws its order -/
section
variable {κ ν : Type} [DecidableEq κ] {ek : κ → Value} {ev : ν → Value} {P : Program} {w w' : World} {b : Nat} {E : List (κ × ν)} {k : κ} {old v : ν} {rL rE rX rS : Option Value}
/-- rL, rE, rX, rS: what the look-up, the entry, its stamp's extract and the store have handed back, if they have run. -/
structure OpW (w : World) (b : Nat) (ek : κ → Value) (ev : ν → Value) (E : List (κ × ν)) (k : κ) (old v : ν) (rL rE rX rS : Option Value) : Prop where
  e0 : rE = none → MapAt w b ek ev E
  e1 : ∀ u, rE = some u → rS = none → ∃ x : Nat, u = .tuple #[ev old, .int .i64 x] ∧ (∀ y, rX = some y → y = .int .i64 x) ∧ StampAt w b (ek k) x ∧ MapAt w b ek ev (ins k old E)
  e2 : rS ≠ none → MapAt w b ek ev (ins k v E)
  e3 : rS ≠ none → rL ≠ none ∧ rE ≠ none ∧ rX ≠ none
  e4 : rX ≠ none → rE ≠ none

theorem OpW.start (h : MapAt w b ek ev E) (k : κ) (old v : ν) : OpW w b ek ev E k old v none none none none :=
  ⟨fun _ => h, fun _ h => (by cases h), fun h => absurd rfl h, fun h => absurd rfl h, fun h => absurd rfl h⟩
theorem OpW.lt (h : OpW w b ek ev E k old v rL rE rX rS) : b < w.heap.size := by
  cases rE with
  | none => exact (h.e0 rfl).lt
  | some u =>
    cases rS with
    | none =>
      obtain ⟨_, _, _, _, h1⟩ := h.e1 u rfl rfl
      exact h1.lt
    | some y => exact (h.e2 (by simp)).lt
theorem OpW.of_block (h : OpW w b ek ev E k old v rL rE rX rS) (hb : w'.heap[b]? = w.heap[b]?) : OpW w' b ek ev E k old v rL rE rX rS := by
  refine ⟨fun h0 => (h.e0 h0).of_block hb, fun u hu hs => ?_, fun h0 => (h.e2 h0).of_block hb, h.e3, h.e4⟩
  obtain ⟨x, h1, h2, h3, h4⟩ := h.e1 u hu hs
  exact ⟨x, h1, h2, h3.of_block hb, h4.of_block hb⟩
theorem OpW.looked (h : OpW w b ek ev E k old v rL rE rX rS) (u : Value) : OpW w b ek ev E k old v (some u) rE rX rS :=
  ⟨h.e0, h.e1, h.e2, fun hs => ⟨by simp, (h.e3 hs).2⟩, h.e4⟩
theorem OpW.lookup {t kt e : TypeId} {z : ν} (h : OpW w b ek ev E k old v none rE rX rS) (ho : old = (get1 E k).getD z) (L : KeyOk P kt ek) (ht : P.underlying t = some (.map kt e)) (hz : (zeroValue e).run P w = .ok (ev z) w) :
    (Instr.lookup t (.map (some b)) (ek k) false).run P w = .ok (ev old) w := by
  cases rE with
  | none =>
    rw [ho]
    exact (h.e0 rfl).run_lookup L ht hz k false
  | some u =>
    cases rS with
    | none =>
      obtain ⟨x, _, _, _, h4⟩ := h.e1 u rfl rfl
      have := h4.run_lookup L ht hz k false
      simpa [get1_ins] using this
    | some y => exact absurd rfl (h.e3 (by simp)).1
theorem OpW.entry {t kt e : TypeId} {z : ν} (h : OpW w b ek ev E k old v rL none rX rS) (ho : old = (get1 E k).getD z) (L : KeyOk P kt ek) (ht : P.underlying t = some (.map kt e)) (hz : (zeroValue e).run P w = .ok (ev z) w) :
    ∃ w' x, (Instr.mapEntry t (.map (some b)) (ek k)).run P w = .ok (.tuple #[ev old, .int .i64 (x : Nat)]) w' ∧ OpW w' b ek ev E k old v rL (some (.tuple #[ev old, .int .i64 (x : Nat)])) rX rS ∧ w.grownBy w' (some b) ∧ w'.heap.size = w.heap.size := by
  obtain ⟨w2, x, hrun, hm', hst, hgr, hsz⟩ := (h.e0 rfl).run_entry L ht hz k
  rw [← ho] at hrun hm'
  have hX : rX = none := by
    cases rX with
    | none => rfl
    | some y => exact absurd rfl (h.e4 (by simp))
  have hS : rS = none := by
    cases rS with
    | none => rfl
    | some y => exact absurd rfl (h.e3 (by simp)).2.1
  subst hX hS
  refine ⟨w2, x, hrun, ⟨fun h => (by cases h), fun u hu _ => ⟨x, (by cases hu; rfl), fun y hy => (by cases hy), hst, hm'⟩, fun h => absurd rfl h, fun h => absurd rfl h, fun h => absurd rfl h⟩, hgr, hsz⟩
theorem OpW.extract {u : Value} (h : OpW w b ek ev E k old v rL (some u) none rS) : ∃ x : Nat, u = .tuple #[ev old, .int .i64 x] ∧ OpW w b ek ev E k old v rL (some u) (some (.int .i64 x)) rS := by
  have hS : rS = none := by
    cases rS with
    | none => rfl
    | some y => exact absurd rfl (h.e3 (by simp)).2.2
  subst hS
  obtain ⟨x, rfl, h10, hst, hm'⟩ := h.e1 u rfl rfl
  refine ⟨x, rfl, h.e0, fun u' hu' _ => ?_, fun h => absurd rfl h, fun h => absurd rfl h, fun _ => by simp⟩
  cases hu'
  exact ⟨x, rfl, fun y hy => (by cases hy; rfl), hst, hm'⟩
theorem OpW.store {t : TypeId} {u y u3 : Value} (h : OpW w b ek ev E k old v (some u3) (some u) (some y) none) (hinj : ∀ {a b : κ}, ek a = ek b → a = b) :
    ∃ (x : Nat) (w' : World), y = .int .i64 x ∧ (Instr.entryStore t (.map (some b)) (.int .i64 (x : Nat)) (ev v)).run P w = .ok () w' ∧ (∀ z, OpW w' b ek ev E k old v (some u3) (some u) (some y) (some z)) ∧ w.grownBy w' (some b) ∧ w'.heap.size = w.heap.size := by
  obtain ⟨x, rfl, h10, hst, hm'⟩ := h.e1 u rfl rfl
  obtain ⟨w2, hrun, hm2', hgr, hsz⟩ := hm'.run_entryStore (P := P) (t := t) (k := k) hinj hst v
  rw [ins_ins] at hm2'
  exact ⟨x, w2, h10 y rfl, hrun, fun z => ⟨fun h => (by cases h), fun _ _ h => (by cases h), fun _ => hm2', fun _ => by simp, fun _ => by simp⟩, hgr, hsz⟩
end
end Go.Kq
