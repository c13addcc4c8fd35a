/- An exchange of two elements of a row of s cells each (x[i], x[j] = x[j], x[i]), in a region that draws its order; cells stored one by one. No program in sight. · The builtin clear at a slice of elements of several cells; a row cut to its beginning. No program in sight. -/
import Derived.Laws.IdiomCopy
import Derived.Lib.SliceRun
import Derived.Test.YtjbpdimepckmfaaXLibReg
import Derived.Test.YtjbpdimepckmfaaXLibMapWM
namespace Go.Kq
open Go.RowKit

/-- Cells stored one by one. -/
def putAt (w : World) (g o : Nat) : List Value → World
  | [] => w
  | v :: vs => putAt (w.setCell ⟨g, o, none⟩ v) g (o + 1) vs
def setAll {β : Type} (xs : List β) (o : Nat) : List β → List β
  | [] => xs
  | v :: vs => setAll (xs.set o v) (o + 1) vs
theorem kp_putAt (g : Nat) : ∀ (vs : List Value) (w : World) (o : Nat), Kp (One g) w (putAt w g o vs)
  | [], w, _ => Kp.refl _ w
  | _ :: vs, w, o => (kp_setOne w g o _).tr (kp_putAt g vs _ (o + 1))
theorem own_putAt {base e s n cap g : Nat} : ∀ (vs : List Value) {w : World} {xs : List Value} (o : Nat), w.ownsRow base e s (.slice (some ⟨g, 0, none⟩) n cap) n xs → (putAt w g o vs).ownsRow base e s (.slice (some ⟨g, 0, none⟩) n cap) n (setAll xs o vs)
  | [], _, _, _, h => h
  | v :: vs, _, _, o, h => own_putAt vs (o + 1) (own_set h o v)
theorem setAll_mid {β : Type} : ∀ (vs p l r : List β), l.length = vs.length → setAll (p ++ (l ++ r)) p.length vs = p ++ (vs ++ r)
  | [], p, l, r, h => by
    have : l = [] := List.length_eq_zero_iff.1 h
    subst this
    rfl
  | v :: vs, p, [], r, h => by cases h
  | v :: vs, p, x :: l, r, h => by
    have ih := setAll_mid vs (p ++ [v]) l r (by simpa using h)
    rw [List.length_append, List.length_singleton] at ih
    show setAll ((p ++ (x :: l ++ r)).set p.length v) (p.length + 1) vs = _
    rw [List.set_append_right _ _ (Nat.le_refl _), Nat.sub_self]
    show setAll (p ++ v :: (l ++ r)) (p.length + 1) vs = _
    rw [List.append_cons, ih]
    simp
theorem setAll_flat {α : Type} {f : α → List Value} {s : Nat} (hf : ∀ x, (f x).length = s) {vs : List α} {i : Nat} {v : α} (hv : vs[i]? = some v) (v' : α) : setAll (vs.flatMap f) (i * s) (f v') = (vs.set i v').flatMap f := by
  obtain ⟨hi, he⟩ := List.getElem?_eq_some_iff.1 hv
  have h1 : vs = vs.take i ++ v :: vs.drop (i + 1) := by rw [← he, List.getElem_cons_drop, List.take_append_drop]
  have hl : (vs.take i).length = i := by rw [List.length_take]; omega
  have h2 : vs.set i v' = vs.take i ++ v' :: vs.drop (i + 1) := by
    conv => lhs; rw [h1]
    rw [List.set_append_right _ _ (by omega), hl, Nat.sub_self]
    rfl
  rw [h2]
  conv => lhs; rw [h1]
  rw [List.flatMap_append, List.flatMap_append, List.flatMap_cons, List.flatMap_cons]
  have h3 : ((vs.take i).flatMap f).length = i * s := by rw [flat_len hf, hl]
  rw [← h3]
  exact setAll_mid _ _ _ _ (by rw [hf, hf])

/-- Operation la loads element j (vj), lb element i (vi); sa stores vj into i, sb stores vi into j. -/
structure SwK {α : Type} (f : α → List Value) (s : Nat) (w0 : World) (g base : Nat) (e : TypeId) (n c : Nat) (xs : List α) (i j : Nat) (vi vj : α) (la lb sa sb : Nat) (r : Nat → Option Value) (w : World) : Prop where
  kp : Kp (One g) w0 w
  row : w.ownsRow base e s (.slice (some ⟨g, 0, none⟩) n c) n (((r sb).elim ((r sa).elim xs fun _ => xs.set i vj) fun _ => ((r sa).elim xs fun _ => xs.set i vj).set j vi).flatMap f)
  da : r sa ≠ none → r lb ≠ none
  db : r sb ≠ none → r la ≠ none
section
variable {α : Type} {f : α → List Value} {s : Nat} {w0 w w' : World} {g base : Nat} {e : TypeId} {n c : Nat} {xs : List α} {i j : Nat} {vi vj : α} {la lb sa sb : Nat} {r : Nat → Option Value}
theorem SwK.start (h : w0.ownsRow base e s (.slice (some ⟨g, 0, none⟩) n c) n (xs.flatMap f)) : SwK f s w0 g base e n c xs i j vi vj la lb sa sb (fun _ => none) w0.drew :=
  ⟨Kp.drew _ _, (Kp.drew No w0).owns h fun _ _ h => h, fun h => absurd rfl h, fun h => absurd rfl h⟩
theorem SwK.upd (h : SwK f s w0 g base e n c xs i j vi vj la lb sa sb r w) (k : Nat) (v : Value) (h1 : k ≠ sa) (h2 : k ≠ sb) : SwK f s w0 g base e n c xs i j vi vj la lb sa sb (Kq.upd r k v) w := by
  have e1 := upd_ne r v h1.symm
  have e2 := upd_ne r v h2.symm
  have some_ : ∀ q, r q ≠ none → Kq.upd r k v q ≠ none := fun q hq => by
    by_cases hk : q = k
    · rw [hk, upd_same]
      simp
    · rw [upd_ne _ _ hk]
      exact hq
  exact ⟨h.kp, by rw [e1, e2]; exact h.row, fun x => some_ _ (h.da (e1 ▸ x)), fun x => some_ _ (h.db (e2 ▸ x))⟩
theorem row_at (hf : ∀ x, (f x).length = s) {v : α} {ys : List α} (h : w.ownsRow base e s (.slice (some ⟨g, 0, none⟩) n c) n (ys.flatMap f)) (hs : 0 < s) (hv : ys[i]? = some v) : ∀ k u, (f v)[k]? = some u → w.cell? ⟨g, i * s + k, none⟩ = some u := by
  obtain ⟨g', hg, _, _, _, hc⟩ := own_at hf h hv hs
  cases hg
  exact fun k u hk => (hc k u hk).1
theorem SwK.loadj (h : SwK f s w0 g base e n c xs i j vi vj la lb sa sb r w) (hf : ∀ x, (f x).length = s) (hs : 0 < s) (hr : r la = none) (hne : i ≠ j) (hj : xs[j]? = some vj) : ∀ k u, (f vj)[k]? = some u → w.cell? ⟨g, j * s + k, none⟩ = some u := by
  have hb : r sb = none := by
    cases hs : r sb with
    | none => rfl
    | some u => exact absurd hr (h.db (by rw [hs]; simp))
  have hrow := h.row
  rw [hb] at hrow
  refine row_at hf hrow hs ?_
  cases hs : r sa with
  | none => exact hj
  | some u =>
    show (xs.set i vj)[j]? = some vj
    rw [List.getElem?_set_ne hne, hj]
theorem SwK.loadi (h : SwK f s w0 g base e n c xs i j vi vj la lb sa sb r w) (hf : ∀ x, (f x).length = s) (hs : 0 < s) (hr : r lb = none) (hne : i ≠ j) (hi : xs[i]? = some vi) : ∀ k u, (f vi)[k]? = some u → w.cell? ⟨g, i * s + k, none⟩ = some u := by
  have ha : r sa = none := by
    cases hs : r sa with
    | none => rfl
    | some u => exact absurd hr (h.da (by rw [hs]; simp))
  have hrow := h.row
  rw [ha] at hrow
  refine row_at hf hrow hs ?_
  cases hs : r sb with
  | none => exact hi
  | some u =>
    show (xs.set j vi)[i]? = some vi
    rw [List.getElem?_set_ne (fun e => hne e.symm), hi]
/-- Whatever stands at a place now. -/
theorem SwK.old (h : SwK f s w0 g base e n c xs i j vi vj la lb sa sb r w) (hf : ∀ x, (f x).length = s) (hs : 0 < s) {k : Nat} (hk : k < xs.length) : ∃ v : α, ∀ q u, (f v)[q]? = some u → w.cell? ⟨g, k * s + q, none⟩ = some u := by
  have hrow := h.row
  generalize hy : ((r sb).elim ((r sa).elim xs fun _ => xs.set i vj) fun _ => ((r sa).elim xs fun _ => xs.set i vj).set j vi) = ys at hrow
  have hl : ys.length = xs.length := by
    rw [← hy]
    cases r sb <;> cases r sa <;> simp
  exact ⟨ys[k]'(by omega), row_at hf hrow hs (List.getElem?_eq_getElem (by omega))⟩
theorem SwK.sta (h : SwK f s w0 g base e n c xs i j vi vj la lb sa sb r w) (hf : ∀ x, (f x).length = s) (hr : r sa = none) (hl : r lb ≠ none) (hne : sa ≠ sb ∧ sa ≠ lb ∧ sa ≠ la) (hij : i ≠ j) (hi : i < xs.length) (x : Value) : SwK f s w0 g base e n c xs i j vi vj la lb sa sb (Kq.upd r sa x) (putAt w g (i * s) (f vj)) := by
  have e2 := upd_ne r x hne.1.symm
  have e3 := upd_ne r x hne.2.1.symm
  have e4 := upd_ne r x hne.2.2.symm
  have hrow := own_putAt (f vj) (i * s) h.row
  refine ⟨h.kp.tr (kp_putAt _ _ _ _), ?_, fun _ => by rw [e3]; exact hl, fun y => by rw [e4]; exact h.db (e2 ▸ y)⟩
  rw [upd_same, e2]
  rw [hr] at hrow
  cases hs : r sb with
  | none =>
    rw [hs] at hrow
    replace hrow : (putAt w g (i * s) (f vj)).ownsRow base e s (.slice (some ⟨g, 0, none⟩) n c) n (setAll (xs.flatMap f) (i * s) (f vj)) := hrow
    rw [setAll_flat hf (List.getElem?_eq_getElem hi)] at hrow
    exact hrow
  | some u =>
    rw [hs] at hrow
    replace hrow : (putAt w g (i * s) (f vj)).ownsRow base e s (.slice (some ⟨g, 0, none⟩) n c) n (setAll ((xs.set j vi).flatMap f) (i * s) (f vj)) := hrow
    rw [setAll_flat hf (List.getElem?_eq_getElem (by rw [List.length_set]; exact hi)), ← List.set_comm _ _ hij] at hrow
    exact hrow
theorem SwK.stb (h : SwK f s w0 g base e n c xs i j vi vj la lb sa sb r w) (hf : ∀ x, (f x).length = s) (hr : r sb = none) (hl : r la ≠ none) (hne : sb ≠ sa ∧ sb ≠ lb ∧ sb ≠ la) (hj : j < xs.length) (x : Value) : SwK f s w0 g base e n c xs i j vi vj la lb sa sb (Kq.upd r sb x) (putAt w g (j * s) (f vi)) := by
  have e2 := upd_ne r x hne.1.symm
  have e3 := upd_ne r x hne.2.1.symm
  have e4 := upd_ne r x hne.2.2.symm
  have hrow := own_putAt (f vi) (j * s) h.row
  refine ⟨h.kp.tr (kp_putAt _ _ _ _), ?_, fun y => by rw [e3]; exact h.da (e2 ▸ y), fun _ => by rw [e4]; exact hl⟩
  rw [upd_same, e2]
  rw [hr] at hrow
  cases hs : r sa with
  | none =>
    rw [hs] at hrow
    replace hrow : (putAt w g (j * s) (f vi)).ownsRow base e s (.slice (some ⟨g, 0, none⟩) n c) n (setAll (xs.flatMap f) (j * s) (f vi)) := hrow
    rw [setAll_flat hf (List.getElem?_eq_getElem hj)] at hrow
    exact hrow
  | some u =>
    rw [hs] at hrow
    replace hrow : (putAt w g (j * s) (f vi)).ownsRow base e s (.slice (some ⟨g, 0, none⟩) n c) n (setAll ((xs.set i vj).flatMap f) (j * s) (f vi)) := hrow
    rw [setAll_flat hf (List.getElem?_eq_getElem (by rw [List.length_set]; exact hj))] at hrow
    exact hrow
theorem SwK.fin (h : SwK f s w0 g base e n c xs i j vi vj la lb sa sb r w) (h1 : r sa ≠ none) (h2 : r sb ≠ none) : w.ownsRow base e s (.slice (some ⟨g, 0, none⟩) n c) n (((xs.set i vj).set j vi).flatMap f) := by
  obtain ⟨z1, hz1⟩ := Option.ne_none_iff_exists'.1 h1
  obtain ⟨z2, hz2⟩ := Option.ne_none_iff_exists'.1 h2
  have hrow := h.row
  rw [hz1, hz2] at hrow
  exact hrow
theorem SwK.free (h : SwK f s w0 g base e n c xs i j vi vj la lb sa sb r w) (k : Nat) : w.frozen? ⟨g, k, none⟩ = false := own_free h.row k
end
end Go.Kq

namespace Go.Kq
open Go.RowKit

theorem setCells_putAt (g : Nat) : ∀ (vs : List Value) (v : World) (o : Nat), v.setCells g o vs = putAt v g o vs
  | [], _, _ => rfl
  | _ :: vs, _, o => setCells_putAt g vs _ (o + 1)
theorem zero_size (z : Array Value) (n : Nat) : (Builtin.zeroCells z n).toList.length = n * z.size := by simp [Builtin.zeroCells]
theorem run_clear_k {P : Program} (w : World) (t e ty : TypeId) (z : Value) (ht : P.underlying t = some (.slice e)) (hv : ∀ w, (zeroValue e).run P w = .ok z w) (h1 : ∀ u ∈ (Builtin.zeroCells z.cells 1).toList, u.oneCell' = true) (b o n c : Nat) (hn : 0 < n)
    (hc : ∀ j, j < n * z.cells.size → (w.cell? ⟨b, o + j, none⟩).isSome = true) (hf : ∀ j, j < n * z.cells.size → w.frozen? ⟨b, o + j, none⟩ = false) :
    (Builtin.clear_ #[t] ty #[.slice (some ⟨b, o, none⟩) n c]).run P w = .ok (.tuple #[]) (putAt w b o (Builtin.zeroCells z.cells n).toList) := by
  have hall : ∀ u ∈ (Builtin.zeroCells z.cells n).toList, u.oneCell' = true := by
    intro u hu
    simp [Builtin.zeroCells] at hu h1
    obtain ⟨i, hi, rfl⟩ := hu
    have hs : 0 < z.cells.size := by
      rcases Nat.eq_zero_or_pos z.cells.size with h | h
      · rw [h] at hi; omega
      · exact h
    have := h1 (i % z.cells.size) (Nat.mod_lt _ hs)
    rwa [Nat.mod_mod] at this
  have hst := run_storeCells_cells (P := P) b o (Builtin.zeroCells z.cells n).toList 0 w (by rw [zero_size]; simpa using hc) (by rw [zero_size]; simpa using hf) hall
  simp only [Nat.add_zero] at hst
  rw [setCells_putAt] at hst
  obtain ⟨m, rfl⟩ : ∃ m, n = m + 1 := ⟨n - 1, by omega⟩
  simp [Builtin.clear_, run_underlying ht, hv, hst]
theorem setAll_length {β : Type} : ∀ (vs xs : List β) (o : Nat), (setAll xs o vs).length = xs.length
  | [], _, _ => rfl
  | v :: vs, xs, o => by
    show (setAll (xs.set o v) (o + 1) vs).length = _
    rw [setAll_length vs, List.length_set]
theorem setAll_take {β : Type} : ∀ (vs xs : List β) (o k : Nat), k ≤ o → (setAll xs o vs).take k = xs.take k
  | [], _, _, _, _ => rfl
  | v :: vs, xs, o, k, h => by
    show (setAll (xs.set o v) (o + 1) vs).take k = _
    rw [setAll_take vs _ _ _ (by omega)]
    apply List.ext_getElem?
    intro i
    rw [List.getElem?_take, List.getElem?_take]
    by_cases hi : i < k
    · rw [if_pos hi, if_pos hi, List.getElem?_set_ne (by omega)]
    · rw [if_neg hi, if_neg hi]
/-- The beginning of a row. -/
theorem own_cut {w : World} {base e s n c g i : Nat} {xs : List Value} (h : w.ownsRow base e s (.slice (some ⟨g, 0, none⟩) n c) n xs) (hi : i ≤ n) : w.ownsRow base e s (.slice (some ⟨g, 0, none⟩) i c) i (xs.take (i * s)) := by
  obtain ⟨hl, h2⟩ := h
  have hle : i * s ≤ n * s := Nat.mul_le_mul_right s hi
  rcases h2 with ⟨h0, _⟩ | ⟨g', cap', cur, hv, hb, hg, h1, h2, h3, h4⟩
  · cases h0
  · cases hv
    refine ⟨by rw [List.length_take]; omega, .inr ⟨_, _, cur, rfl, hb, hg, by omega, h2, h3, ?_⟩⟩
    rw [← h4, List.take_take]
    congr 1
    omega
theorem flat_take {α : Type} {f : α → List Value} {s : Nat} (hf : ∀ x, (f x).length = s) (vs : List α) (i : Nat) : (vs.flatMap f).take (i * s) = (vs.take i).flatMap f := by
  by_cases hi : i ≤ vs.length
  · have h1 : vs.flatMap f = (vs.take i).flatMap f ++ (vs.drop i).flatMap f := by rw [← List.flatMap_append, List.take_append_drop]
    have h2 : ((vs.take i).flatMap f).length = i * s := by rw [flat_len hf, List.length_take, Nat.min_eq_left hi]
    rw [h1, List.take_append_of_le_length (by omega), List.take_of_length_le (by omega)]
  · rw [List.take_of_length_le (l := vs) (by omega), List.take_of_length_le (by rw [flat_len hf]; exact Nat.mul_le_mul_right s (by omega))]
end Go.Kq
