/- Chapter 33: how voices that came in are read. · Chapter 33: five small numbers that came in. -/
import Derived.ProofKit
import Derived.OpenShut
import Derived.Deep.Slices
import Derived.Deep.Fields
import Derived.ChangeSame
import Derived.Test.YtfflhlmnfhfcgaaXBaseM
namespace Go.Proofs.Ytfflhlmnfhfcgaa
open Go.ChangeShapes Go.WideShapes Go.RowKit Go.Deep Go.Kq

theorem choose_list {α : Type} {P : Nat → α → Prop} : ∀ n : Nat, (∀ i, i < n → ∃ a, P i a) → ∃ l : List α, l.length = n ∧ ∀ i a, l[i]? = some a → P i a
  | 0, _ => ⟨[], rfl, fun i a h => by simp at h⟩
  | n + 1, h => by
    obtain ⟨l, hl, hp⟩ := choose_list n fun i hi => h i (by omega)
    obtain ⟨a, ha⟩ := h n (by omega)
    refine ⟨l ++ [a], by simp [hl], fun i b hb => ?_⟩
    rcases Nat.lt_trichotomy i n with h1 | h1 | h1
    · rw [List.getElem?_append_left (by omega)] at hb
      exact hp i b hb
    · subst h1
      rw [List.getElem?_append_right (by omega), hl] at hb
      simp at hb
      exact hb ▸ ha
    · rw [List.getElem?_eq_none (by simp; omega)] at hb
      cases hb
section
variable {H : Type} {enc : TypeId × Value → H} {W : World} {base : Nat} {spare : Nat → Bool} {held : Bool}
theorem one_int {fuel : Nat} {v : Value} {y : DataW H × List MemPlace} (h : DataW.trod enc Try.prog W base spare held fuel 3 [v] = some y) : ∃ x : Int, v = .int .i64 x := by
  obtain ⟨x, h1, _⟩ := DataW.trod_int Try.underlying3 h
  simp at h1
  exact ⟨x, h1⟩
theorem c38 : Try.prog.cellsOf 38 = 4 := by kernel_rfl
theorem c3 : Try.prog.cellsOf 3 = 1 := by kernel_rfl
theorem c30 : Try.prog.cellsOf 30 = 2 := by kernel_rfl
set_option maxRecDepth 100000 in
theorem four_cells {cs : List Value} {n : Nat} {y : DataW H × List MemPlace} (h : DataW.trod enc Try.prog W base spare held n 38 cs = some y) : ∃ v : Vc, cs = [.int .i64 v.d, .int .i64 v.p, .int .i64 v.f, .int .i64 v.q] := by
  obtain ⟨ys, m, hn, _, hlen, hyl, hf⟩ := DataW.trod_struct Try.underlying38 h
  rw [c38] at hlen
  have key : ∀ (i : Nat) (f : Field), i < 4 → (#[{ name := "Division", type := 3, offset := 0, embedded := false, tag := "", pkgPath := "", byteOffset := 0 }, { name := "Pitch", type := 3, offset := 1, embedded := false, tag := "", pkgPath := "", byteOffset := 8 }, { name := "Family", type := 3, offset := 2, embedded := false, tag := "", pkgPath := "", byteOffset := 16 }, { name := "Power", type := 3, offset := 3, embedded := false, tag := "", pkgPath := "", byteOffset := 24 }] : Array Field)[i]? = some f → f.offset = i → f.type = 3 → ∃ x : Int, cs[i]? = some (.int .i64 x) := by
    intro i f hi hfi ho ht
    have g := hf i f hfi
    rw [ho, ht, c3] at g
    have hys : ys[i]? = some (ys[i]'(by simp at hyl; omega)) := List.getElem?_eq_getElem (by simp at hyl; omega)
    have hc : cs[i]? = some (cs[i]'(by omega)) := List.getElem?_eq_getElem (by omega)
    have ht1 : (cs.drop i).take 1 = [cs[i]'(by omega)] := by
      rw [List.drop_eq_getElem_cons (by omega)]
      rfl
    rw [ht1, hys] at g
    obtain ⟨x, hx⟩ := one_int g
    exact ⟨x, by rw [hc, hx]⟩
  obtain ⟨d, h0⟩ := key 0 _ (by omega) rfl rfl rfl
  obtain ⟨p, h1⟩ := key 1 _ (by omega) rfl rfl rfl
  obtain ⟨f, h2⟩ := key 2 _ (by omega) rfl rfl rfl
  obtain ⟨q, h3⟩ := key 3 _ (by omega) rfl rfl rfl
  refine ⟨⟨d, p, f, q⟩, ?_⟩
  match cs, hlen with
  | [a0, a1, a2, a3], _ =>
    simp at h0 h1 h2 h3
    subst h0 h1 h2 h3
    rfl
set_option maxRecDepth 100000 in
theorem open_voices {a : Option Addr} {len cap : Nat} {d : DataW H} {p : List MemPlace} (h : DataW.Trod enc Try.prog W base (fun _ => true) held 22 (.slice a len cap) d p) : ∃ vs, RdV W a len vs := by
  obtain ⟨fuel, hf⟩ := h
  rcases open_slice Try.underlying22 hf with ⟨hcs, _⟩ | ⟨x, l, c, m, n, D, Pl, hcs, hb, hl, hm, hmm, _, hi⟩
  · simp [Value.cells] at hcs
    obtain ⟨rfl, rfl, rfl⟩ := hcs
    exact ⟨[], rfl, fun i v h => by simp at h⟩
  · simp [Value.cells] at hcs
    obtain ⟨rfl, rfl, rfl⟩ := hcs
    simp at hmm
    subst hmm
    rw [c38] at hi
    by_cases hz : len = 0
    · subst hz
      exact ⟨[], rfl, fun i v h => by simp at h⟩
    obtain ⟨b0, o0, sp⟩ := x
    have hsp : sp = none := by
      obtain ⟨cs', hc, ht⟩ := hi 0 (by omega)
      obtain ⟨_, _, hat⟩ := World.cells?_some hc
      have e0 := hat 0 (by omega)
      obtain ⟨v, rfl⟩ := four_cells ht
      simpa [Addr.add] using World.cell?_spot e0
    subst hsp
    obtain ⟨vs, hvl, hvs⟩ := choose_list (P := fun i (v : Vc) => ∃ b o, (some ⟨b0, o0, none⟩ : Option Addr) = some ⟨b, o, none⟩ ∧ b < W.heap.size ∧ W.cell? ⟨b, o + i * 4, none⟩ = some (.int .i64 v.d) ∧ W.cell? ⟨b, o + i * 4 + 1, none⟩ = some (.int .i64 v.p) ∧ W.cell? ⟨b, o + i * 4 + 2, none⟩ = some (.int .i64 v.f) ∧ W.cell? ⟨b, o + i * 4 + 3, none⟩ = some (.int .i64 v.q)) len (fun i hil => by
      obtain ⟨cs', hc, ht⟩ := hi i (by omega)
      obtain ⟨v, rfl⟩ := four_cells ht
      obtain ⟨_, _, hat⟩ := World.cells?_some hc
      have e0 := hat 0 (by omega)
      have e1 := hat 1 (by omega)
      have e2 := hat 2 (by omega)
      have e3 := hat 3 (by omega)
      simp only [Addr.add_lit, Nat.add_zero] at e0 e1 e2 e3
      exact ⟨v, b0, o0, rfl, World.block_lt_of_cell? W _ e0, e0, e1, e2, e3⟩)
    exact ⟨vs, hvl, hvs⟩
set_option maxRecDepth 100000 in
theorem open_pair {v : Value} {d : DataW H} {p : List MemPlace} {r : Reach} {b0 : Nat} (hv : Value.okWide Try.prog W r b0 30 v) (h : DataW.Trod enc Try.prog W base (fun _ => true) held 30 v d p) : ∃ x y : Int, v = .agg #[.int .i64 x, .int .i64 y] := by
  simp only [Value.okWide, Try.underlying30] at hv
  obtain ⟨cs, rfl, hsz, _⟩ := hv
  rw [c30] at hsz
  obtain ⟨fuel, hf⟩ := h
  obtain ⟨xs, m, _, _, hlen, hxl, hel⟩ := DataW.trod_array Try.underlying30 hf
  rw [c3] at hel
  obtain ⟨l⟩ := cs
  match l, hsz with
  | [c0, c1], _ =>
    have e0 := hel 0 (by omega)
    have e1 := hel 1 (by omega)
    match xs, hxl with
    | [y0, y1], _ =>
      obtain ⟨x, rfl⟩ := one_int (by simpa [Value.cells] using e0)
      obtain ⟨y, rfl⟩ := one_int (by simpa [Value.cells] using e1)
      exact ⟨x, y, rfl⟩
end
end Go.Proofs.Ytfflhlmnfhfcgaa

namespace Go.Proofs.Ytfflhlmnfhfcgaa
open Go.ChangeShapes Go.WideShapes Go.RowKit Go.Deep Go.Kq
section
variable {H : Type} {enc : TypeId × Value → H} {W : World} {base : Nat} {held : Bool}
theorem one_i8 {c : Value} {fuel : Nat} {y : DataW H × List MemPlace} (h : DataW.trod enc Try.prog W base (fun _ => true) held fuel 54 [c] = some y) : ∃ x : Int, c = .int .i8 x ∧ -128 ≤ x ∧ x ≤ 127 := by
  obtain ⟨d, p⟩ := y
  obtain ⟨m, hc, _, hw⟩ := DataW.trod_int Try.underlying54 h
  simp at hc
  have hb := bounds_i8 hw
  exact ⟨m, hc, hb.1, hb.2⟩
theorem c55 : Try.prog.cellsOf 55 = 5 := by kernel_rfl
theorem c54 : Try.prog.cellsOf 54 = 1 := by kernel_rfl
set_option maxRecDepth 100000 in
theorem open_five {v : Value} {d : DataW H} {p : List MemPlace} {r : Reach} {b0 : Nat} (hv : Value.okWide Try.prog W r b0 55 v) (h : DataW.Trod enc Try.prog W base (fun _ => true) held 55 v d p) :
    ∃ x0 x1 x2 x3 x4 : Int, v = .agg #[.int .i8 x0, .int .i8 x1, .int .i8 x2, .int .i8 x3, .int .i8 x4] ∧ (-128 ≤ x0 ∧ x0 ≤ 127) ∧ (-128 ≤ x1 ∧ x1 ≤ 127) ∧ (-128 ≤ x2 ∧ x2 ≤ 127) ∧ (-128 ≤ x3 ∧ x3 ≤ 127) ∧ (-128 ≤ x4 ∧ x4 ≤ 127) := by
  simp only [Value.okWide, Try.underlying55] at hv
  obtain ⟨cs, rfl, hsz, _⟩ := hv
  rw [c55] at hsz
  obtain ⟨fuel, hf⟩ := h
  obtain ⟨xs, m, _, _, hlen, hxl, hel⟩ := DataW.trod_array Try.underlying55 hf
  rw [c54] at hel
  obtain ⟨l⟩ := cs
  match l, hsz with
  | [q0, q1, q2, q3, q4], _ =>
    have e0 := hel 0 (by omega)
    have e1 := hel 1 (by omega)
    have e2 := hel 2 (by omega)
    have e3 := hel 3 (by omega)
    have e4 := hel 4 (by omega)
    match xs, hxl with
    | [y0, y1, y2, y3, y4], _ =>
      obtain ⟨x0, rfl, h0⟩ := one_i8 (by simpa [Value.cells] using e0)
      obtain ⟨x1, rfl, h1⟩ := one_i8 (by simpa [Value.cells] using e1)
      obtain ⟨x2, rfl, h2⟩ := one_i8 (by simpa [Value.cells] using e2)
      obtain ⟨x3, rfl, h3⟩ := one_i8 (by simpa [Value.cells] using e3)
      obtain ⟨x4, rfl, h4⟩ := one_i8 (by simpa [Value.cells] using e4)
      exact ⟨x0, x1, x2, x3, x4, rfl, h0, h1, h2, h3, h4⟩
end
end Go.Proofs.Ytfflhlmnfhfcgaa
