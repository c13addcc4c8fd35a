/- Rows: what a slice that the call made, or that came in, reads as: plain facts. No program in sight. · The laws on maps at the operations of a walk. -/
import Derived.Laws.MakeOwn
import Derived.Maps.RangeWalk
import Derived.Test.YtjbpdimepckmfaaXLibAppM
import Derived.Test.YtjbpdimepckmfaaXLibMap
namespace Go.Kq
open Go.RowKit

theorem own_form {w : World} {base n : Nat} {e : TypeId} {size : Nat} {v : Value} {xs : List Value} (h : w.ownsRow base e size v n xs) : ∃ a cap, v = .slice a n cap ∧ n ≤ cap ∧ cap ≤ maxLen ∧ (0 < n → ∃ g, a = some ⟨g, 0, none⟩) := by
  rcases h.2 with ⟨rfl, rfl⟩ | ⟨g, cap, _, rfl, _, _, h1, h2, _⟩
  · exact ⟨none, 0, rfl, by omega, by omega, fun h => by omega⟩
  · exact ⟨_, cap, rfl, h1, h2, fun _ => ⟨g, rfl⟩⟩
theorem own_ge {w : World} {base m : Nat} {e : TypeId} {size : Nat} {v : Value} {xs : List Value} (h : w.ownsRow base e size v m xs) {g : Nat} (hg : v.ownBlock = some g) : base ≤ g ∧ g < w.heap.size := h.lt g hg
theorem own_mono {w : World} {base base' m : Nat} {e : TypeId} {size : Nat} {v : Value} {xs : List Value} (h : w.ownsRow base e size v m xs) (hb : base' ≤ base) : w.ownsRow base' e size v m xs := by
  rcases h with ⟨hl, h0 | ⟨g, cap, cur, hv, hbg, rest⟩⟩
  · exact ⟨hl, .inl h0⟩
  · exact ⟨hl, .inr ⟨g, cap, cur, hv, by omega, rest⟩⟩
theorem own_apart {w : World} {base base' n n' : Nat} {e e' : TypeId} {size size' : Nat} {v v' : Value} {xs xs' : List Value} (h : w.ownsRow base e size v n xs) (h' : w.ownsRow base' e' size' v' n' xs') (hne : e ≠ e') {g : Nat} (hg : v.ownBlock = some g) : v'.ownBlock ≠ some g := by
  intro hg'
  rcases h.2 with ⟨rfl, _⟩ | ⟨g1, _, _, rfl, _, hh, _⟩
  · cases hg
  · rcases h'.2 with ⟨rfl, _⟩ | ⟨g2, _, _, rfl, _, hh', _⟩
    · cases hg'
    · cases hg
      cases hg'
      rw [hh] at hh'
      injection hh' with hh'
      injection hh' with _ ht
      exact hne ht
theorem own_other {w : World} {base n : Nat} {e e' : TypeId} {size : Nat} {v : Value} {xs : List Value} (h : w.ownsRow base e size v n xs) {B : Nat} {cs : Array Value} {m : Nat × Nat} (hB : w.heap[B]? = some (.cells cs e' m)) (hne : e ≠ e') : v.ownBlock ≠ some B := by
  intro hg
  rcases h.2 with ⟨rfl, _⟩ | ⟨g1, _, _, rfl, _, hh, _⟩
  · cases hg
  · cases hg
    rw [hh] at hB
    injection hB with hB
    injection hB with _ ht
    exact hne ht
theorem own_set {w : World} {base n cap g : Nat} {e : TypeId} {size : Nat} {xs : List Value} (h : w.ownsRow base e size (.slice (some ⟨g, 0, none⟩) n cap) n xs) (j : Nat) (u : Value) : (w.setCell ⟨g, j, none⟩ u).ownsRow base e size (.slice (some ⟨g, 0, none⟩) n cap) n (xs.set j u) := by
  obtain ⟨hl, h2⟩ := h
  rcases h2 with ⟨h0, _⟩ | ⟨g', cap', cur, hv, hb, hg, h1, h2, h3, h4⟩
  · cases h0
  · cases hv
    refine ⟨by simpa using hl, .inr ⟨_, _, cur.setIfInBounds j u, rfl, hb, ?_, h1, h2, by simpa using h3, ?_⟩⟩
    · simp [World.setCell, Array.getElem?_modify, hg]
    · rw [Array.toList_setIfInBounds, List.take_set, h4]
theorem add_at (g o j : Nat) : ((⟨g, o, none⟩ : Addr).add j) = ⟨g, o + j, none⟩ := by unfold Addr.add; split <;> simp_all
theorem own_cell {w : World} {base n cap g : Nat} {e : TypeId} {size : Nat} {xs : List Value} (h : w.ownsRow base e size (.slice (some ⟨g, 0, none⟩) n cap) n xs) {j : Nat} {u : Value} (hj : xs[j]? = some u) : w.cell? ⟨g, j, none⟩ = some u := by
  have := h.cells (g := g) rfl j u hj
  rwa [add_at, Nat.zero_add] at this
theorem own_free {w : World} {base n cap g : Nat} {e : TypeId} {size : Nat} {xs : List Value} (h : w.ownsRow base e size (.slice (some ⟨g, 0, none⟩) n cap) n xs) (j : Nat) : w.frozen? ⟨g, j, none⟩ = false := by
  rcases h.2 with ⟨h0, _⟩ | ⟨g', cap', cur, hv, hb, hg, _⟩
  · cases h0
  · cases hv
    simp [World.frozen?, hg]
theorem own_kp {S : Nat → Prop} {w w' : World} {base n : Nat} {e : TypeId} {size : Nat} {v : Value} {xs : List Value} (h : w.ownsRow base e size v n xs) (hk : Kp S w w') (hS : ∀ g, v.ownBlock = some g → ¬ S g) : w'.ownsRow base e size v n xs := hk.owns h hS
theorem kp_setOne (w : World) (G o : Nat) (v : Value) : Kp (One G) w (w.setCell ⟨G, o, none⟩ v) := Kp.setCell _ _ _ _ fun _ => rfl
theorem own_empty {w : World} {base : Nat} {e : TypeId} {size : Nat} (hb : base ≤ w.heap.size) : (w.alloc (.cells #[] e)).ownsRow base e size (.slice (some ⟨w.heap.size, 0, none⟩) 0 0) 0 [] :=
  ⟨by simp, .inr ⟨_, 0, #[], rfl, hb, heap_alloc_new w _, by omega, by unfold maxLen; omega, by simp, by simp⟩⟩

/-! ### elements of several cells -/
section
variable {α : Type} {f : α → List Value} {s : Nat}
theorem flat_len (hf : ∀ x, (f x).length = s) : ∀ vs : List α, (vs.flatMap f).length = vs.length * s
  | [] => by simp
  | v :: vs => by
    rw [List.flatMap_cons, List.length_append, hf, flat_len hf vs, List.length_cons, Nat.add_mul]
    omega
theorem flat_at (hf : ∀ x, (f x).length = s) : ∀ (vs : List α) (i : Nat) (v : α) (j : Nat) (u : Value), vs[i]? = some v → (f v)[j]? = some u → (vs.flatMap f)[i * s + j]? = some u
  | [], i, v, j, u, h, _ => by simp at h
  | x :: vs, 0, v, j, u, h, hj => by
    simp at h
    subst h
    have := (List.getElem?_eq_some_iff.1 hj).1
    rw [List.flatMap_cons, Nat.zero_mul, Nat.zero_add, List.getElem?_append_left this]
    exact hj
  | x :: vs, i + 1, v, j, u, h, hj => by
    have ih := flat_at hf vs i v j u (by simpa using h) hj
    rw [List.flatMap_cons, List.getElem?_append_right (by rw [hf, Nat.add_mul]; omega), hf, show (i + 1) * s + j - s = i * s + j by rw [Nat.add_mul]; omega]
    exact ih
theorem flat_set (hf : ∀ x, (f x).length = s) : ∀ (vs : List α) (i : Nat) (v v' : α) (j : Nat) (u : Value), vs[i]? = some v → j < s → (f v).set j u = f v' → (vs.flatMap f).set (i * s + j) u = (vs.set i v').flatMap f
  | [], i, v, _, j, u, h, _, _ => by simp at h
  | x :: vs, 0, v, v', j, u, h, hj, hs => by
    simp at h
    subst h
    rw [List.flatMap_cons, Nat.zero_mul, Nat.zero_add, List.set_append_left _ _ (by rw [hf]; exact hj), hs]
    rfl
  | x :: vs, i + 1, v, v', j, u, h, hj, hs => by
    have ih := flat_set hf vs i v v' j u (by simpa using h) hj hs
    rw [List.flatMap_cons, List.set_append_right _ _ (by rw [hf, Nat.add_mul]; omega), hf, show (i + 1) * s + j - s = i * s + j by rw [Nat.add_mul]; omega, ih]
    rfl
theorem own_at (hf : ∀ x, (f x).length = s) {w : World} {base e n : Nat} {A : Option Addr} {cap : Nat} {vs : List α} (h : w.ownsRow base e s (.slice A n cap) n (vs.flatMap f)) {i : Nat} {v : α} (hv : vs[i]? = some v) (hs : 0 < s) :
    ∃ g, A = some ⟨g, 0, none⟩ ∧ base ≤ g ∧ g < w.heap.size ∧ i < n ∧ ∀ j u, (f v)[j]? = some u → w.cell? ⟨g, i * s + j, none⟩ = some u ∧ w.frozen? ⟨g, i * s + j, none⟩ = false := by
  have hl := h.1
  rw [flat_len hf] at hl
  have hi := (List.getElem?_eq_some_iff.1 hv).1
  have hn : vs.length = n := Nat.eq_of_mul_eq_mul_right hs hl
  obtain ⟨a, c, hv', h1, h2, h3⟩ := own_form h
  cases hv'
  obtain ⟨g, rfl⟩ := h3 (by omega)
  have hb := own_ge h (g := g) rfl
  exact ⟨g, rfl, hb.1, hb.2, by omega, fun j u hj => ⟨own_cell h (flat_at hf vs i v j u hv hj), own_free h _⟩⟩
theorem own_count (hf : ∀ x, (f x).length = s) {w : World} {base e n : Nat} {v : Value} {vs : List α} (h : w.ownsRow base e s v n (vs.flatMap f)) (hs : 0 < s) : vs.length = n := by
  have hl := h.1
  rw [flat_len hf] at hl
  exact Nat.eq_of_mul_eq_mul_right hs hl
theorem flat_snoc (vs : List α) (v : α) : (vs ++ [v]).flatMap f = vs.flatMap f ++ f v := by simp
end

/-! ### slices that are read alone -/
/-- A slice of elements of s cells. -/
def Rd {α : Type} (f : α → List Value) (s : Nat) (w : World) (A : Option Addr) (n : Nat) (vs : List α) : Prop :=
  vs.length = n ∧ ∀ i v, vs[i]? = some v → ∃ b o, A = some ⟨b, o, none⟩ ∧ b < w.heap.size ∧ ∀ j u, (f v)[j]? = some u → w.cell? ⟨b, o + i * s + j, none⟩ = some u
section
variable {α : Type} {f : α → List Value} {s : Nat} {w w' : World} {A : Option Addr} {n : Nat} {vs : List α}
theorem Rd.kp {S : Nat → Prop} (h : Rd f s w A n vs) (hk : Kp S w w') (hS : ∀ b o, A = some ⟨b, o, none⟩ → b < w.heap.size → ¬ S b) : Rd f s w' A n vs :=
  ⟨h.1, fun i v hv => by
    obtain ⟨b, o, hA, hb, hc⟩ := h.2 i v hv
    exact ⟨b, o, hA, Nat.lt_of_lt_of_le hb hk.size, fun j u hj => hk.cell (hc j u hj) (hS b o hA hb)⟩⟩
theorem Rd.no (h : Rd f s w A n vs) (hk : Kp No w w') : Rd f s w' A n vs := h.kp hk fun _ _ _ _ h => h
theorem Rd.nil (w : World) (A : Option Addr) : Rd f s w A 0 [] := ⟨rfl, fun i v h => by simp at h⟩
theorem Rd.of_own (hf : ∀ x, (f x).length = s) (hs : 0 < s) {base e cap : Nat} (h : w.ownsRow base e s (.slice A n cap) n (vs.flatMap f)) : Rd f s w A n vs :=
  ⟨own_count hf h hs, fun i v hv => by
    obtain ⟨g, rfl, _, h2, _, hc⟩ := own_at hf h hv hs
    exact ⟨g, 0, rfl, h2, fun j u hj => by rw [Nat.zero_add]; exact (hc j u hj).1⟩⟩
end
/-- A slice of integers. -/
def RdI (k : IntKind) (w : World) (A : Option Addr) (n : Nat) (xs : List Int) : Prop :=
  xs.length = n ∧ ∀ i x, xs[i]? = some x → ∃ b o, A = some ⟨b, o, none⟩ ∧ b < w.heap.size ∧ w.cell? ⟨b, o + i, none⟩ = some (.int k x)
section
variable {k : IntKind} {w w' : World} {A : Option Addr} {n : Nat} {xs : List Int}
theorem RdI.kp {S : Nat → Prop} (h : RdI k w A n xs) (hk : Kp S w w') (hS : ∀ b o, A = some ⟨b, o, none⟩ → b < w.heap.size → ¬ S b) : RdI k w' A n xs :=
  ⟨h.1, fun i v hv => by
    obtain ⟨b, o, hA, hb, hc⟩ := h.2 i v hv
    exact ⟨b, o, hA, Nat.lt_of_lt_of_le hb hk.size, hk.cell hc (hS b o hA hb)⟩⟩
theorem RdI.no (h : RdI k w A n xs) (hk : Kp No w w') : RdI k w' A n xs := h.kp hk fun _ _ _ _ h => h
theorem RdI.nil (w : World) (A : Option Addr) : RdI k w A 0 [] := ⟨rfl, fun i v h => by simp at h⟩
theorem RdI.of_own {base e cap : Nat} (h : w.ownsRow base e 1 (.slice A n cap) n (xs.map (Value.int k))) : RdI k w A n xs := by
  have hl := h.1
  simp at hl
  refine ⟨hl, fun i x hx => ?_⟩
  have hi := (List.getElem?_eq_some_iff.1 hx).1
  obtain ⟨a, c, hv', h1, h2, h3⟩ := own_form h
  cases hv'
  obtain ⟨g, rfl⟩ := h3 (by omega)
  exact ⟨g, 0, rfl, (own_ge h (g := g) rfl).2, by rw [Nat.zero_add]; exact own_cell h (by rw [List.getElem?_map, hx]; rfl)⟩
end
/-- A slice of bools. -/
def RdB (w : World) (A : Option Addr) (n : Nat) (xs : List Bool) : Prop :=
  xs.length = n ∧ ∀ i x, xs[i]? = some x → ∃ b o, A = some ⟨b, o, none⟩ ∧ b < w.heap.size ∧ w.cell? ⟨b, o + i, none⟩ = some (.bool x)
theorem RdB.kp {S : Nat → Prop} {w w' : World} {A : Option Addr} {n : Nat} {xs : List Bool} (h : RdB w A n xs) (hk : Kp S w w') (hS : ∀ b o, A = some ⟨b, o, none⟩ → b < w.heap.size → ¬ S b) : RdB w' A n xs :=
  ⟨h.1, fun i v hv => by
    obtain ⟨b, o, hA, hb, hc⟩ := h.2 i v hv
    exact ⟨b, o, hA, Nat.lt_of_lt_of_le hb hk.size, hk.cell hc (hS b o hA hb)⟩⟩
theorem RdB.no {w w' : World} {A : Option Addr} {n : Nat} {xs : List Bool} (h : RdB w A n xs) (hk : Kp No w w') : RdB w' A n xs := h.kp hk fun _ _ _ _ h => h
end Go.Kq

namespace Go.Kq
open Go.RowKit
section
variable {κ ν : Type} [DecidableEq κ] {ek : κ → Value} {ev : ν → Value}
variable {P : Program} (w : World) {ops : Array Oper} {rest : List Oper} {o : Oper} {a : Act} {Q : Exit → Act → World → Prop} {b : Nat} {E : List (κ × ν)}

theorem wpL_lookup (hg : o.guard = none) (m x : Operand) (t : TypeId) (hop : o.op = Op.lookup t m x false) {kt e : TypeId} (L : KeyOk P kt ek) (ht : P.underlying t = some (.map kt e)) {z : ν} (hz : (zeroValue e).run P w = .ok (ev z) w)
    (hmap : MapAt w b ek ev E) (k : κ) (hm : a.eval m = .map (some b)) (hx : a.eval x = ek k) (hK : wpList P ops Q rest (a.put o.dst (ev ((get1 E k).getD z))) w) : wpList P ops Q (o :: rest) a w := by
  refine wpList_plain hg fun K' hK' => ?_
  have hrun := hmap.run_lookup L ht hz k false
  unfold Oper.wp
  simp only [execOp, hop, hm, hx, Sem.run_bind, hrun, Result.andThen]
  exact hK' _ _ hK

theorem wpL_update (hg : o.guard = none) (m x v : Operand) (t : TypeId) (hop : o.op = Op.mapUpdate t m x v) {kt e : TypeId} (L : KeyOk P kt ek) (ht : P.underlying t = some (.map kt e))
    (hmap : MapAt w b ek ev E) (k : κ) (u : ν) (hm : a.eval m = .map (some b)) (hx : a.eval x = ek k) (hv : a.eval v = ev u)
    (hK : ∀ w', MapAt w' b ek ev (ins k u E) → w.grownBy w' (some b) → w'.heap.size = w.heap.size → wpList P ops Q rest (a.put o.dst undef) w') : wpList P ops Q (o :: rest) a w := by
  refine wpList_plain hg fun K' hK' => ?_
  obtain ⟨w', hrun, h1, h2, h3⟩ := hmap.run_update L ht k u
  unfold Oper.wp
  simp only [execOp, hop, hm, hx, hv, Sem.run_bind, hrun, Result.andThen]
  exact hK' _ _ (hK w' h1 h2 h3)

omit [DecidableEq κ] in
theorem wpL_range (hg : o.guard = none) (m : Operand) (t : TypeId) (hop : o.op = Op.range t m) {kt e : TypeId} (ht : P.underlying t = some (.map kt e)) (hmap : MapAt w b ek ev E) (hm : a.eval m = .map (some b))
    (hK : ∀ w', RangeAt w' b w.heap.size ek ev E [] → w.grownBy w' none → w'.heap.size = w.heap.size + 1 → wpList P ops Q rest (a.put o.dst (.pointer (some ⟨w.heap.size, 0, none⟩))) w') : wpList P ops Q (o :: rest) a w := by
  refine wpList_plain hg fun K' hK' => ?_
  obtain ⟨w', hrun, h1, h2, h3⟩ := hmap.run_range (P := P) ht
  unfold Oper.wp
  simp only [execOp, hop, hm, Sem.run_bind, hrun, Result.andThen]
  exact hK' _ _ (hK w' h1 h2 h3)

omit [DecidableEq κ] in
theorem wpL_next (hg : o.guard = none) (it : Operand) (hop : o.op = Op.next it false) {kt : TypeId} (L : KeyOk P kt ek) {r : Nat} {S : List κ} (h : RangeAt w b r ek ev E S) (hit : a.eval it = .pointer (some ⟨r, 0, none⟩))
    (hDone : (∀ k ∈ keys E, k ∈ S) → wpList P ops Q rest (a.put o.dst (.tuple #[.bool false])) w)
    (hMore : ∀ k v w', (k, v) ∈ E → k ∉ S → RangeAt w' b r ek ev E (k :: S) → w.grownBy w' (some r) → w'.heap.size = w.heap.size → (Instr.entry (.pointer (some ⟨r, 0, none⟩))).run P w' = .ok (.tuple #[ek k, ev v]) w' →
      wpList P ops Q rest (a.put o.dst (.tuple #[.bool true, ek k, ev v])) w') : wpList P ops Q (o :: rest) a w := by
  refine wpList_plain hg fun K' hK' => ?_
  unfold Oper.wp
  rcases h.run_next (P := P) L o.type with ⟨h1, hrun⟩ | ⟨k, v, w', h1, h2, hrun, h3, h4, h5, h6⟩
  · simp only [execOp, hop, hit, Sem.run_bind, hrun, Result.andThen]
    exact hK' _ _ (hDone h1)
  · simp only [execOp, hop, hit, Sem.run_bind, hrun, Result.andThen]
    exact hK' _ _ (hMore k v w' h1 h2 h3 h4 h5 h6)
end

/-! ### 'm[k] op= v' inside a region that draws its order -/
section
variable {κ ν : Type} [DecidableEq κ] {ek : κ → Value} {ev : ν → Value} {P : Program} {w w' : World} {b : Nat} {E : List (κ × ν)} {k : κ} {old v : ν} {rL rE rX rS : Option Value}
/-- rL, rE, rX, rS: what the look-up, the entry, its stamp's extract and the store have handed back, if they have run. -/
structure OpW (w : World) (b : Nat) (ek : κ → Value) (ev : ν → Value) (E : List (κ × ν)) (k : κ) (old v : ν) (rL rE rX rS : Option Value) : Prop where
  e0 : rE = none → MapAt w b ek ev E
  e1 : ∀ u, rE = some u → rS = none → ∃ x : Nat, u = .tuple #[ev old, .int .i64 x] ∧ (∀ y, rX = some y → y = .int .i64 x) ∧ StampAt w b (ek k) x ∧ MapAt w b ek ev (ins k old E)
  e2 : rS ≠ none → MapAt w b ek ev (ins k v E)
  e3 : rS ≠ none → rL ≠ none ∧ rE ≠ none ∧ rX ≠ none
  e4 : rX ≠ none → rE ≠ none

theorem OpW.start (h : MapAt w b ek ev E) (k : κ) (old v : ν) : OpW w b ek ev E k old v none none none none :=
  ⟨fun _ => h, fun _ h => (by cases h), fun h => absurd rfl h, fun h => absurd rfl h, fun h => absurd rfl h⟩
theorem OpW.lt (h : OpW w b ek ev E k old v rL rE rX rS) : b < w.heap.size := by
  cases rE with
  | none => exact (h.e0 rfl).lt
  | some u =>
    cases rS with
    | none =>
      obtain ⟨_, _, _, _, h1⟩ := h.e1 u rfl rfl
      exact h1.lt
    | some y => exact (h.e2 (by simp)).lt
theorem OpW.of_block (h : OpW w b ek ev E k old v rL rE rX rS) (hb : w'.heap[b]? = w.heap[b]?) : OpW w' b ek ev E k old v rL rE rX rS := by
  refine ⟨fun h0 => (h.e0 h0).of_block hb, fun u hu hs => ?_, fun h0 => (h.e2 h0).of_block hb, h.e3, h.e4⟩
  obtain ⟨x, h1, h2, h3, h4⟩ := h.e1 u hu hs
  exact ⟨x, h1, h2, h3.of_block hb, h4.of_block hb⟩
theorem OpW.looked (h : OpW w b ek ev E k old v rL rE rX rS) (u : Value) : OpW w b ek ev E k old v (some u) rE rX rS :=
  ⟨h.e0, h.e1, h.e2, fun hs => ⟨by simp, (h.e3 hs).2⟩, h.e4⟩
theorem OpW.lookup {t kt e : TypeId} {z : ν} (h : OpW w b ek ev E k old v none rE rX rS) (ho : old = (get1 E k).getD z) (L : KeyOk P kt ek) (ht : P.underlying t = some (.map kt e)) (hz : (zeroValue e).run P w = .ok (ev z) w) :
    (Instr.lookup t (.map (some b)) (ek k) false).run P w = .ok (ev old) w := by
  cases rE with
  | none =>
    rw [ho]
    exact (h.e0 rfl).run_lookup L ht hz k false
  | some u =>
    cases rS with
    | none =>
      obtain ⟨x, _, _, _, h4⟩ := h.e1 u rfl rfl
      have := h4.run_lookup L ht hz k false
      simpa [get1_ins] using this
    | some y => exact absurd rfl (h.e3 (by simp)).1
theorem OpW.entry {t kt e : TypeId} {z : ν} (h : OpW w b ek ev E k old v rL none rX rS) (ho : old = (get1 E k).getD z) (L : KeyOk P kt ek) (ht : P.underlying t = some (.map kt e)) (hz : (zeroValue e).run P w = .ok (ev z) w) :
    ∃ w' x, (Instr.mapEntry t (.map (some b)) (ek k)).run P w = .ok (.tuple #[ev old, .int .i64 (x : Nat)]) w' ∧ OpW w' b ek ev E k old v rL (some (.tuple #[ev old, .int .i64 (x : Nat)])) rX rS ∧ w.grownBy w' (some b) ∧ w'.heap.size = w.heap.size := by
  obtain ⟨w2, x, hrun, hm', hst, hgr, hsz⟩ := (h.e0 rfl).run_entry L ht hz k
  rw [← ho] at hrun hm'
  have hX : rX = none := by
    cases rX with
    | none => rfl
    | some y => exact absurd rfl (h.e4 (by simp))
  have hS : rS = none := by
    cases rS with
    | none => rfl
    | some y => exact absurd rfl (h.e3 (by simp)).2.1
  subst hX hS
  refine ⟨w2, x, hrun, ⟨fun h => (by cases h), fun u hu _ => ⟨x, (by cases hu; rfl), fun y hy => (by cases hy), hst, hm'⟩, fun h => absurd rfl h, fun h => absurd rfl h, fun h => absurd rfl h⟩, hgr, hsz⟩
theorem OpW.extract {u : Value} (h : OpW w b ek ev E k old v rL (some u) none rS) : ∃ x : Nat, u = .tuple #[ev old, .int .i64 x] ∧ OpW w b ek ev E k old v rL (some u) (some (.int .i64 x)) rS := by
  have hS : rS = none := by
    cases rS with
    | none => rfl
    | some y => exact absurd rfl (h.e3 (by simp)).2.2
  subst hS
  obtain ⟨x, rfl, h10, hst, hm'⟩ := h.e1 u rfl rfl
  refine ⟨x, rfl, h.e0, fun u' hu' _ => ?_, fun h => absurd rfl h, fun h => absurd rfl h, fun _ => by simp⟩
  cases hu'
  exact ⟨x, rfl, fun y hy => (by cases hy; rfl), hst, hm'⟩
theorem OpW.store {t : TypeId} {u y u3 : Value} (h : OpW w b ek ev E k old v (some u3) (some u) (some y) none) (hinj : ∀ {a b : κ}, ek a = ek b → a = b) :
    ∃ (x : Nat) (w' : World), y = .int .i64 x ∧ (Instr.entryStore t (.map (some b)) (.int .i64 (x : Nat)) (ev v)).run P w = .ok () w' ∧ (∀ z, OpW w' b ek ev E k old v (some u3) (some u) (some y) (some z)) ∧ w.grownBy w' (some b) ∧ w'.heap.size = w.heap.size := by
  obtain ⟨x, rfl, h10, hst, hm'⟩ := h.e1 u rfl rfl
  obtain ⟨w2, hrun, hm2', hgr, hsz⟩ := hm'.run_entryStore (P := P) (t := t) (k := k) hinj hst v
  rw [ins_ins] at hm2'
  exact ⟨x, w2, h10 y rfl, hrun, fun z => ⟨fun h => (by cases h), fun _ _ h => (by cases h), fun _ => hm2', fun _ => by simp, fun _ => by simp⟩, hgr, hsz⟩
end
end Go.Kq
