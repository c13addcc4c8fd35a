/- The builtin clear at a slice of elements of several cells; a row cut to its beginning. No program in sight. -/
import Derived.Laws.IdiomCopy
import Derived.Lib.SliceRun
import Derived.Test.YtjbpdimepckmfaaXLibSwK
namespace Go.Kq
open Go.RowKit

theorem setCells_putAt (g : Nat) : ∀ (vs : List Value) (v : World) (o : Nat), v.setCells g o vs = putAt v g o vs
  | [], _, _ => rfl
  | _ :: vs, _, o => setCells_putAt g vs _ (o + 1)
theorem zero_size (z : Array Value) (n : Nat) : (Builtin.zeroCells z n).toList.length = n * z.size := by simp [Builtin.zeroCells]
theorem run_clear_k {P : Program} (w : World) (t e ty : TypeId) (z : Value) (ht : P.underlying t = some (.slice e)) (hv : ∀ w, (zeroValue e).run P w = .ok z w) (h1 : ∀ u ∈ (Builtin.zeroCells z.cells 1).toList, u.oneCell' = true) (b o n c : Nat) (hn : 0 < n)
    (hc : ∀ j, j < n * z.cells.size → (w.cell? ⟨b, o + j, none⟩).isSome = true) (hf : ∀ j, j < n * z.cells.size → w.frozen? ⟨b, o + j, none⟩ = false) :
    (Builtin.clear_ #[t] ty #[.slice (some ⟨b, o, none⟩) n c]).run P w = .ok (.tuple #[]) (putAt w b o (Builtin.zeroCells z.cells n).toList) := by
  have hall : ∀ u ∈ (Builtin.zeroCells z.cells n).toList, u.oneCell' = true := by
    intro u hu
    simp [Builtin.zeroCells] at hu h1
    obtain ⟨i, hi, rfl⟩ := hu
    have hs : 0 < z.cells.size := by
      rcases Nat.eq_zero_or_pos z.cells.size with h | h
      · rw [h] at hi; omega
      · exact h
    have := h1 (i % z.cells.size) (Nat.mod_lt _ hs)
    rwa [Nat.mod_mod] at this
  have hst := run_storeCells_cells (P := P) b o (Builtin.zeroCells z.cells n).toList 0 w (by rw [zero_size]; simpa using hc) (by rw [zero_size]; simpa using hf) hall
  simp only [Nat.add_zero] at hst
  rw [setCells_putAt] at hst
  obtain ⟨m, rfl⟩ : ∃ m, n = m + 1 := ⟨n - 1, by omega⟩
  simp [Builtin.clear_, run_underlying ht, hv, hst]
theorem setAll_length {β : Type} : ∀ (vs xs : List β) (o : Nat), (setAll xs o vs).length = xs.length
  | [], _, _ => rfl
  | v :: vs, xs, o => by
    show (setAll (xs.set o v) (o + 1) vs).length = _
    rw [setAll_length vs, List.length_set]
theorem setAll_take {β : Type} : ∀ (vs xs : List β) (o k : Nat), k ≤ o → (setAll xs o vs).take k = xs.take k
  | [], _, _, _, _ => rfl
  | v :: vs, xs, o, k, h => by
    show (setAll (xs.set o v) (o + 1) vs).take k = _
    rw [setAll_take vs _ _ _ (by omega)]
    apply List.ext_getElem?
    intro i
    rw [List.getElem?_take, List.getElem?_take]
    by_cases hi : i < k
    · rw [if_pos hi, if_pos hi, List.getElem?_set_ne (by omega)]
    · rw [if_neg hi, if_neg hi]
/-- The beginning of a row. -/
theorem own_cut {w : World} {base e s n c g i : Nat} {xs : List Value} (h : w.ownsRow base e s (.slice (some ⟨g, 0, none⟩) n c) n xs) (hi : i ≤ n) : w.ownsRow base e s (.slice (some ⟨g, 0, none⟩) i c) i (xs.take (i * s)) := by
  obtain ⟨hl, h2⟩ := h
  have hle : i * s ≤ n * s := Nat.mul_le_mul_right s hi
  rcases h2 with ⟨h0, _⟩ | ⟨g', cap', cur, hv, hb, hg, h1, h2, h3, h4⟩
  · cases h0
  · cases hv
    refine ⟨by rw [List.length_take]; omega, .inr ⟨_, _, cur, rfl, hb, hg, by omega, h2, h3, ?_⟩⟩
    rw [← h4, List.take_take]
    congr 1
    omega
theorem flat_take {α : Type} {f : α → List Value} {s : Nat} (hf : ∀ x, (f x).length = s) (vs : List α) (i : Nat) : (vs.flatMap f).take (i * s) = (vs.take i).flatMap f := by
  by_cases hi : i ≤ vs.length
  · have h1 : vs.flatMap f = (vs.take i).flatMap f ++ (vs.drop i).flatMap f := by rw [← List.flatMap_append, List.take_append_drop]
    have h2 : ((vs.take i).flatMap f).length = i * s := by rw [flat_len hf, List.length_take, Nat.min_eq_left hi]
    rw [h1, List.take_append_of_le_length (by omega), List.take_of_length_le (by omega)]
  · rw [List.take_of_length_le (l := vs) (by omega), List.take_of_length_le (by rw [flat_len hf]; exact Nat.mul_le_mul_right s (by omega))]
end Go.Kq
