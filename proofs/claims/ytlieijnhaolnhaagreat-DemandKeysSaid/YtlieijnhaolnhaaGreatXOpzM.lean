/- Chapter 13: how toes, intervals, lists that came in are read. · Chapter 13: how rows of pipes, pressures that came in are read. -/
import Derived.ProofKit
import Derived.OpenShut
import Derived.Deep.Slices
import Derived.Deep.Fields
import Derived.ChangeSame
import Derived.Test.YtlieijnhaolnhaaGreatXChkM
import Derived.Test.YtlieijnhaolnhaaGreatXCf
namespace Go.Proofs.YtlieijnhaolnhaaGreat
open Go.ChangeShapes Go.WideShapes Go.RowKit Go.Deep Go.Kq

theorem choose_list {α : Type} {P : Nat → α → Prop} : ∀ n : Nat, (∀ i, i < n → ∃ a, P i a) → ∃ l : List α, l.length = n ∧ ∀ i a, l[i]? = some a → P i a
  | 0, _ => ⟨[], rfl, fun i a h => by simp at h⟩
  | n + 1, h => by
    obtain ⟨l, hl, hp⟩ := choose_list n fun i hi => h i (by omega)
    obtain ⟨a, ha⟩ := h n (by omega)
    refine ⟨l ++ [a], by simp [hl], fun i b hb => ?_⟩
    rcases Nat.lt_trichotomy i n with h1 | h1 | h1
    · rw [List.getElem?_append_left (by omega)] at hb
      exact hp i b hb
    · subst h1
      rw [List.getElem?_append_right (by omega), hl] at hb
      simp at hb
      exact hb ▸ ha
    · rw [List.getElem?_eq_none (by simp; omega)] at hb
      cases hb
section
variable {H : Type} {enc : TypeId × Value → H} {W : World} {base : Nat} {spare : Nat → Bool} {held : Bool}
theorem one_int3 {fuel : Nat} {v : Value} {y : DataW H × List MemPlace} (h : DataW.trod enc Tryz.prog W base spare held fuel 3 [v] = some y) : ∃ x : Int, v = .int .i64 x := by
  obtain ⟨x, h1, _⟩ := DataW.trod_int Tryz.underlying3 h
  simp at h1
  exact ⟨x, h1⟩
theorem one_int2 {fuel : Nat} {v : Value} {y : DataW H × List MemPlace} (h : DataW.trod enc Tryz.prog W base spare held fuel 2 [v] = some y) : ∃ x : Int, v = .int .i64 x := by
  obtain ⟨x, h1, _⟩ := DataW.trod_int Tryz.underlying2 h
  simp at h1
  exact ⟨x, h1⟩
theorem one_bool {fuel : Nat} {v : Value} {y : DataW H × List MemPlace} (h : DataW.trod enc Tryz.prog W base spare held fuel 4 [v] = some y) : ∃ x : Bool, v = .bool x := by
  obtain ⟨x, h1, _⟩ := DataW.trod_bool Tryz.underlying4 h
  simp at h1
  exact ⟨x, h1⟩
theorem fld {t : TypeId} {fs : Array Field} {fuel : Nat} {cs : List Value} {y : DataW H × List MemPlace} (ht : Tryz.prog.underlying t = some (.struct fs)) (h : DataW.trod enc Tryz.prog W base spare held fuel t cs = some y) (i : Nat) (f : Field) (o k : Nat) (e : TypeId) (hf : fs[i]? = some f) (ho : f.offset = o) (he : f.type = e) (hk : Tryz.prog.cellsOf e = k) :
    ∃ n y, DataW.trod enc Tryz.prog W base spare held n e ((cs.drop o).take k) = some y := by
  obtain ⟨xs, n, _, _, _, hl, hx⟩ := DataW.trod_struct ht h
  have g := hx i f hf
  have hi := (Array.getElem?_eq_some_iff.1 hf).1
  rw [ho, he, hk, List.getElem?_eq_getElem (by omega)] at g
  exact ⟨n, _, g⟩
theorem open_rd {α : Type} (f : α → List Value) (s : Nat) (hs : 0 < s) (_hfl : ∀ x, (f x).length = s) {t e : TypeId} (ht : Tryz.prog.underlying t = some (.slice e)) (ce : Tryz.prog.cellsOf e = s)
    (he : ∀ (fuel : Nat) (cs : List Value) (y : DataW H × List MemPlace), DataW.trod enc Tryz.prog W base (fun _ => true) held fuel e cs = some y → ∃ x, cs = f x)
    {fuel : Nat} {a : Option Addr} {len cap : Nat} {y : DataW H × List MemPlace} (h : DataW.trod enc Tryz.prog W base (fun _ => true) held fuel t [.slice a len cap] = some y) : (∃ xs, Rd f s W a len xs) ∧ (a = none → len = 0 ∧ cap = 0) := by
  rcases open_slice ht h with ⟨hcs, _⟩ | ⟨x, l, c, m, n, D, Pl, hcs, hb, hl, hm, hmm, _, hi⟩
  · simp at hcs
    obtain ⟨rfl, rfl, rfl⟩ := hcs
    exact ⟨⟨[], rfl, fun i v h => by simp at h⟩, fun _ => ⟨rfl, rfl⟩⟩
  · simp at hcs
    obtain ⟨rfl, rfl, rfl⟩ := hcs
    refine ⟨?_, fun h => by cases h⟩
    simp at hmm
    subst hmm
    rw [ce] at hi
    by_cases hz : len = 0
    · subst hz
      exact ⟨[], rfl, fun i v h => by simp at h⟩
    obtain ⟨b0, o0, sp⟩ := x
    have hsp : sp = none := by
      obtain ⟨cs', hc, ht⟩ := hi 0 (by omega)
      obtain ⟨_, hln, hat⟩ := World.cells?_some hc
      have e0 := hat 0 (by omega)
      rw [List.getElem?_eq_getElem (by omega)] at e0
      simpa [Addr.add] using World.cell?_spot e0
    subst hsp
    obtain ⟨vs, hvl, hvs⟩ := choose_list (P := fun i (v : α) => b0 < W.heap.size ∧ ∀ j u, (f v)[j]? = some u → W.cell? ⟨b0, o0 + i * s + j, none⟩ = some u) len (fun i hil => by
      obtain ⟨cs', hc, ht⟩ := hi i (by omega)
      obtain ⟨v, rfl⟩ := he _ _ _ ht
      obtain ⟨_, hln, hat⟩ := World.cells?_some hc
      refine ⟨v, ?_, fun j u hj => ?_⟩
      · have e0 := hat 0 (by omega)
        rw [List.getElem?_eq_getElem (by omega)] at e0
        simp only [Addr.add_lit, Nat.add_zero] at e0
        exact World.block_lt_of_cell? W _ e0
      · have hjl := (List.getElem?_eq_some_iff.1 hj).1
        have e0 := hat j (by omega)
        simp only [Addr.add_lit] at e0
        rw [e0, hj])
    exact ⟨vs, hvl, fun i v hv => ⟨b0, o0, rfl, (hvs i v hv).1, (hvs i v hv).2⟩⟩
theorem one_cell {e : TypeId} (_h1 : Tryz.prog.cellsOf e = 1) {fuel : Nat} {cs : List Value} {y : DataW H × List MemPlace} (k : IntKind) (he : Tryz.prog.underlying e = some (.int k)) (h : DataW.trod enc Tryz.prog W base spare held fuel e cs = some y) : ∃ x : Int, cs = [.int k x] := by
  obtain ⟨x, h1, _⟩ := DataW.trod_int he h
  exact ⟨x, h1⟩
theorem rdI_of {k : IntKind} {a : Option Addr} {n : Nat} {xs : List Int} (h : Rd (fun x : Int => [Value.int k x]) 1 W a n xs) : RdI k W a n xs := by
  refine ⟨h.1, fun i x hx => ?_⟩
  obtain ⟨b, o, hA, hb, hc⟩ := h.2 i x hx
  exact ⟨b, o, hA, hb, by simpa using hc 0 _ rfl⟩
theorem open_ints {t e : TypeId} (k : IntKind) (ht : Tryz.prog.underlying t = some (.slice e)) (he : Tryz.prog.underlying e = some (.int k)) (ce : Tryz.prog.cellsOf e = 1) {fuel : Nat} {a : Option Addr} {len cap : Nat} {y : DataW H × List MemPlace}
    (h : DataW.trod enc Tryz.prog W base (fun _ => true) held fuel t [.slice a len cap] = some y) : (∃ xs, RdI k W a len xs) ∧ (a = none → len = 0 ∧ cap = 0) := by
  obtain ⟨⟨xs, hx⟩, hn⟩ := open_rd (fun x : Int => [Value.int k x]) 1 (by omega) (fun _ => rfl) ht ce (fun fuel cs y h => one_cell ce k he h) h
  exact ⟨⟨xs, rdI_of hx⟩, hn⟩
theorem one_slice {t e : TypeId} (ht : Tryz.prog.underlying t = some (.slice e)) {fuel : Nat} {v : Value} {y : DataW H × List MemPlace} (h : DataW.trod enc Tryz.prog W base spare held fuel t [v] = some y) : ∃ a n c, v = .slice a n c := by
  rcases open_slice ht h with ⟨hcs, _⟩ | ⟨x, l, c, m, n, D, Pl, hcs, _⟩
  · simp at hcs; exact ⟨_, _, _, hcs⟩
  · simp at hcs; exact ⟨_, _, _, hcs⟩
theorem cI : Tryz.prog.cellsOf 3 = 1 := by kernel_rfl
theorem cL : Tryz.prog.cellsOf 2 = 1 := by kernel_rfl
theorem cB : Tryz.prog.cellsOf 4 = 1 := by kernel_rfl
theorem cIv : Tryz.prog.cellsOf 25 = 2 := by kernel_rfl
theorem cToe : Tryz.prog.cellsOf 23 = 2 := by kernel_rfl
set_option maxRecDepth 100000 in
theorem toe_cells {cs : List Value} {n : Nat} {y : DataW H × List MemPlace} (h : DataW.trod enc Tryz.prog W base spare held n 23 cs = some y) : ∃ b f : Int, cs = [.int .i64 b, .int .i64 f] := by
  obtain ⟨_, _, _, _, hlen, _, _⟩ := DataW.trod_struct Tryz.underlying23 h
  rw [cToe] at hlen
  match cs, hlen with
  | [a0, a1], _ =>
    obtain ⟨n0, y0, h0⟩ := fld Tryz.underlying23 h 0 _ 0 1 2 rfl rfl rfl cL
    obtain ⟨n1, y1, h1⟩ := fld Tryz.underlying23 h 1 _ 1 1 2 rfl rfl rfl cL
    obtain ⟨b, rfl⟩ := one_int2 (by simpa using h0)
    obtain ⟨f, rfl⟩ := one_int2 (by simpa using h1)
    exact ⟨b, f, rfl⟩
set_option maxRecDepth 100000 in
theorem iv_cells {cs : List Value} {n : Nat} {y : DataW H × List MemPlace} (h : DataW.trod enc Tryz.prog W base spare held n 25 cs = some y) : ∃ x : Int × Int, cs = ivC x := by
  obtain ⟨_, _, _, _, hlen, _, _⟩ := DataW.trod_struct Tryz.underlying25 h
  rw [cIv] at hlen
  match cs, hlen with
  | [a0, a1], _ =>
    obtain ⟨n0, y0, h0⟩ := fld Tryz.underlying25 h 0 _ 0 1 2 rfl rfl rfl cL
    obtain ⟨n1, y1, h1⟩ := fld Tryz.underlying25 h 1 _ 1 1 2 rfl rfl rfl cL
    obtain ⟨b, rfl⟩ := one_int2 (by simpa using h0)
    obtain ⟨f, rfl⟩ := one_int2 (by simpa using h1)
    exact ⟨(b, f), rfl⟩
set_option maxRecDepth 100000 in
/-- A toe that came in. -/
theorem open_toe {v : Value} {d : DataW H} {p : List MemPlace} {r : Reach} {b0 : Nat} (hv : Value.okWide Tryz.prog W r b0 23 v) (h : DataW.Trod enc Tryz.prog W base spare held 23 v d p) : ∃ b f : Int, v = toeV b f := by
  obtain ⟨cs, rfl, hsz⟩ := okWide_struct Tryz.underlying23 hv
  obtain ⟨fuel, hf⟩ := h
  simp only [Value.cells] at hf
  obtain ⟨b, f, hc⟩ := toe_cells hf
  obtain ⟨l⟩ := cs
  simp only at hc
  subst hc
  exact ⟨b, f, rfl⟩
/-- Intervals that came in. -/
theorem open_ivs {fuel : Nat} {a : Option Addr} {len cap : Nat} {y : DataW H × List MemPlace} (h : DataW.trod enc Tryz.prog W base (fun _ => true) held fuel 38 [.slice a len cap] = some y) : (∃ xs, Rd ivC 2 W a len xs) ∧ (a = none → len = 0 ∧ cap = 0) :=
  open_rd ivC 2 (by omega) (fun _ => rfl) Tryz.underlying38 cIv (fun _ _ _ h => iv_cells h) h
end
end Go.Proofs.YtlieijnhaolnhaaGreat

namespace Go.Proofs.YtlieijnhaolnhaaGreat
open Go.ChangeShapes Go.WideShapes Go.RowKit Go.Deep Go.Kq

section
variable {H : Type} {enc : TypeId × Value → H} {W : World} {base : Nat} {held : Bool}
theorem cRow : Tryz.prog.cellsOf 53 = 5 := by kernel_rfl
theorem cPp : Tryz.prog.cellsOf 51 = 2 := by kernel_rfl
theorem cLs : Tryz.prog.cellsOf 33 = 1 := by kernel_rfl
theorem cChs : Tryz.prog.cellsOf 35 = 2 := by kernel_rfl
set_option maxRecDepth 100000 in
theorem pipe_cells {spare : Nat → Bool} {cs : List Value} {n : Nat} {y : DataW H × List MemPlace} (h : DataW.trod enc Tryz.prog W base spare held n 51 cs = some y) : ∃ p : Pp, cs = pcells p := by
  obtain ⟨_, _, _, _, hlen, _, _⟩ := DataW.trod_struct Tryz.underlying51 h
  rw [cPp] at hlen
  match cs, hlen with
  | [a0, a1], _ =>
    obtain ⟨n0, y0, h0⟩ := fld Tryz.underlying51 h 0 _ 0 1 3 rfl rfl rfl cI
    obtain ⟨n1, y1, h1⟩ := fld Tryz.underlying51 h 1 _ 1 1 3 rfl rfl rfl cI
    obtain ⟨b, rfl⟩ := one_int3 (by simpa using h0)
    obtain ⟨f, rfl⟩ := one_int3 (by simpa using h1)
    exact ⟨(b, f), rfl⟩
set_option maxRecDepth 100000 in
theorem row_cells {spare : Nat → Bool} {cs : List Value} {n : Nat} {y : DataW H × List MemPlace} (h : DataW.trod enc Tryz.prog W base spare held n 53 cs = some y) : ∃ x : Rw, cs = rwC x := by
  obtain ⟨_, _, _, _, hlen, _, _⟩ := DataW.trod_struct Tryz.underlying53 h
  rw [cRow] at hlen
  match cs, hlen with
  | [a0, a1, a2, a3, a4], _ =>
    obtain ⟨n0, y0, h0⟩ := fld Tryz.underlying53 h 0 _ 0 2 51 rfl rfl rfl cPp
    obtain ⟨n1, y1, h1⟩ := fld Tryz.underlying53 h 1 _ 2 2 23 rfl rfl rfl cToe
    obtain ⟨n2, y2, h2⟩ := fld Tryz.underlying53 h 2 _ 4 1 3 rfl rfl rfl cI
    obtain ⟨p, hp⟩ := pipe_cells (show DataW.trod enc Tryz.prog W base spare held n0 51 [a0, a1] = some y0 by simpa using h0)
    obtain ⟨b, f, ht⟩ := toe_cells (show DataW.trod enc Tryz.prog W base spare held n1 23 [a2, a3] = some y1 by simpa using h1)
    obtain ⟨c, rfl⟩ := one_int3 (by simpa using h2)
    unfold pcells at hp
    injection hp with e0 hp
    injection hp with e1 _
    injection ht with e2 ht
    injection ht with e3 _
    subst e0 e1 e2 e3
    exact ⟨⟨p.1, p.2, b, f, c⟩, rfl⟩
/-- Rows that came in. -/
theorem open_rows {a : Option Addr} {len cap : Nat} {d : DataW H} {p : List MemPlace} (h : DataW.Trod enc Tryz.prog W base (fun _ => true) held 32 (.slice a len cap) d p) : ∃ xs, Rd rwC 5 W a len xs := by
  obtain ⟨fuel, hf⟩ := h
  exact (open_rd rwC 5 (by omega) (fun _ => rfl) Tryz.underlying32 cRow (fun _ _ _ h => row_cells h) (show DataW.trod enc Tryz.prog W base (fun _ => true) held fuel 32 [.slice a len cap] = some (d, p) by simpa [Value.cells] using hf)).1
theorem open_boolsU {a : Option Addr} {len cap : Nat} {d : DataW H} {p : List MemPlace} (h : DataW.Trod enc Tryz.prog W base (fun _ => true) held 49 (.slice a len cap) d p) : ∃ xs, RdB W a len xs := by
  obtain ⟨fuel, hf⟩ := h
  obtain ⟨⟨xs, hx⟩, _⟩ := open_rd (fun b : Bool => [Value.bool b]) 1 (by omega) (fun _ => rfl) Tryz.underlying49 cB (fun fuel cs y h => by
    obtain ⟨x, h1, _⟩ := DataW.trod_bool Tryz.underlying4 h
    exact ⟨x, h1⟩) (show DataW.trod enc Tryz.prog W base (fun _ => true) held fuel 49 [.slice a len cap] = some (d, p) by simpa [Value.cells] using hf)
  refine ⟨xs, hx.1, fun i x hi => ?_⟩
  obtain ⟨b, o, hA, hb, hc⟩ := hx.2 i x hi
  exact ⟨b, o, hA, hb, by simpa using hc 0 _ rfl⟩
set_option maxRecDepth 100000 in
/-- Pressures and a chest that came in. -/
theorem open_chests {v : Value} {d : DataW H} {p : List MemPlace} {r : Reach} {b0 : Nat} (hv : Value.okWide Tryz.prog W r b0 35 v) (h : DataW.Trod enc Tryz.prog W base (fun _ => true) held 35 v d p) :
    ∃ (P : Option Addr) (pn cp : Nat) (x : Int) (ps : List Int), v = .agg #[.slice P pn cp, .int .i64 x] ∧ RdI .i64 W P pn ps := by
  obtain ⟨cs, rfl, hsz⟩ := okWide_struct Tryz.underlying35 hv
  rw [cChs] at hsz
  obtain ⟨fuel, hf⟩ := h
  obtain ⟨l⟩ := cs
  match l, hsz with
  | [a0, a1], _ =>
    obtain ⟨n0, y0, h0⟩ := fld Tryz.underlying35 hf 0 _ 0 1 33 rfl rfl rfl cLs
    obtain ⟨n1, y1, h1⟩ := fld Tryz.underlying35 hf 1 _ 1 1 3 rfl rfl rfl cI
    simp [Value.cells] at h0 h1
    obtain ⟨P, pn, cp, rfl⟩ := one_slice Tryz.underlying33 h0
    obtain ⟨x, rfl⟩ := one_int3 h1
    obtain ⟨⟨ps, hps⟩, _⟩ := open_ints .i64 Tryz.underlying33 Tryz.underlying2 cL h0
    exact ⟨P, pn, cp, x, ps, rfl, hps⟩
end
end Go.Proofs.YtlieijnhaolnhaaGreat
