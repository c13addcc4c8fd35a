/- Chapter 24: the law's ends. · Chapter 24: how fields, numbers, plans, rows that came in are read. · Chapter 24: how a least gap with numbers that came in is read. -/
import Derived.ProofKit
import Derived.OpenShut
import Derived.Deep.Slices
import Derived.Deep.Fields
import Derived.ChangeSame
import Derived.Test.YtakgcnjpmpcekaaXFeA
import Derived.Test.YtakgcnjpmpcekaaXFlAM
import Derived.Test.YtakgcnjpmpcekaaXVaSM
import Derived.Test.YtakgcnjpmpcekaaXLwX
namespace Go.Proofs.Ytakgcnjpmpcekaa
open Go.RowKit Go.Kq

def rowV (W b z : Int) (R : Option Addr) (m cr : Nat) : Value := .agg #[.int .i64 W, .int .i64 b, .int .i64 z, .slice R m cr]
set_option maxHeartbeats 4000000 in
theorem ends_yes (W b z g : Int) (R A : Option Addr) (m cr ca : Nat) (r x : List Int) (x0 y0 xn yn : Int) (w : World) (hm : 0 < m) (hm2 : m ≤ 60) (hR : RdI .i64 w R m r) (hA : RdI .i64 w A m x) (h1 : x[0]? = some x0) (h2 : r[0]? = some y0) (h3 : x[m - 1]? = some xn) (h4 : r[m - 1]? = some yn)
    (hW : 0 ≤ W ∧ W ≤ 10000000) (b1 : 0 ≤ x0 ∧ x0 ≤ 10000000) (b2 : 0 ≤ y0 ∧ y0 ≤ 10000000) (b3 : 0 ≤ xn ∧ xn ≤ 10000000) (_b4 : 0 ≤ yn ∧ yn ≤ 10000000) (hg : g ≤ x0 - y0) (hl : x0 - y0 ≤ W - xn - yn) (hr : W - xn - yn - (x0 - y0) ≤ 1) :
    Calls Try.prog 28 #[rowV W b z R m cr, .int .i64 g, .slice A m ca] w fun e w' => e = .returned (.bool true) ∧ Kp No w w' := by
  have hk : Kp No w (w.alloc (.cells #[.int .i64 W, .int .i64 b, .int .i64 z, .slice R m cr] 54)) := Kp.alloc _ _ _
  have p0 : (w.alloc (.cells #[.int .i64 W, .int .i64 b, .int .i64 z, .slice R m cr] 54)).cell? ⟨w.heap.size, 0, none⟩ = some (.int .i64 W) := by go_simp
  have p3 : (w.alloc (.cells #[.int .i64 W, .int .i64 b, .int .i64 z, .slice R m cr] 54)).cell? ⟨w.heap.size, 3, none⟩ = some (.slice R m cr) := by go_simp
  obtain ⟨o1, q1, rfl, _, c1⟩ := (hA.no hk).2 0 x0 h1
  obtain ⟨o2, q2, rfl, _, c2⟩ := (hR.no hk).2 0 y0 h2
  obtain ⟨o3, q3, e3, _, c3⟩ := (hA.no hk).2 (m - 1) xn h3
  obtain ⟨o4, q4, e4, _, c4⟩ := (hR.no hk).2 (m - 1) yn h4
  injection e3 with e3
  injection e3 with e3a e3b
  injection e4 with e4
  injection e4 with e4a e4b
  subst e3a e3b e4a e4b
  rw [Nat.add_zero] at c1 c2
  obtain ⟨k, hkm⟩ : ∃ k, k = m - 1 := ⟨_, rfl⟩
  rw [← hkm] at c3 c4
  have hki : (m : Int) - 1 = (k : Int) := by omega
  have hkl : k < m := by omega
  have HK := Lib.hid hk
  clear hkm h1 h2 h3 h4 hR hA hk
  unfold rowV
  generalize hw0 : w.alloc (.cells #[.int .i64 W, .int .i64 b, .int .i64 z, .slice (some ⟨o2, q2, none⟩) m cr] 54) = w0 at *
  go_enter Try.func28, Try.ntmps28
  go_wp2_with fail
  go_quiet (fail)
  go_wp2_with fail
  go_ret
  refine ⟨ret_bool ?_, HK.out.tr (Kp.drewN No _ _)⟩
  simp
end Go.Proofs.Ytakgcnjpmpcekaa

namespace Go.Proofs.Ytakgcnjpmpcekaa
open Go.ChangeShapes Go.WideShapes Go.RowKit Go.Deep Go.Kq

theorem choose_list {α : Type} {P : Nat → α → Prop} : ∀ n : Nat, (∀ i, i < n → ∃ a, P i a) → ∃ l : List α, l.length = n ∧ ∀ i a, l[i]? = some a → P i a
  | 0, _ => ⟨[], rfl, fun i a h => by simp at h⟩
  | n + 1, h => by
    obtain ⟨l, hl, hp⟩ := choose_list n fun i hi => h i (by omega)
    obtain ⟨a, ha⟩ := h n (by omega)
    refine ⟨l ++ [a], by simp [hl], fun i b hb => ?_⟩
    rcases Nat.lt_trichotomy i n with h1 | h1 | h1
    · rw [List.getElem?_append_left (by omega)] at hb
      exact hp i b hb
    · subst h1
      rw [List.getElem?_append_right (by omega), hl] at hb
      simp at hb
      exact hb ▸ ha
    · rw [List.getElem?_eq_none (by simp; omega)] at hb
      cases hb
section
variable {H : Type} {enc : TypeId × Value → H} {W : World} {base : Nat} {spare : Nat → Bool} {held : Bool}
theorem one_long {fuel : Nat} {v : Value} {y : DataW H × List MemPlace} (h : DataW.trod enc Try.prog W base spare held fuel 2 [v] = some y) : ∃ x : Int, v = .int .i64 x := by
  obtain ⟨x, h1, _⟩ := DataW.trod_int Try.underlying2 h
  simp at h1
  exact ⟨x, h1⟩
theorem one_int {fuel : Nat} {v : Value} {y : DataW H × List MemPlace} (h : DataW.trod enc Try.prog W base spare held fuel 3 [v] = some y) : ∃ x : Int, v = .int .i64 x := by
  obtain ⟨x, h1, _⟩ := DataW.trod_int Try.underlying3 h
  simp at h1
  exact ⟨x, h1⟩
theorem cLong : Try.prog.cellsOf 2 = 1 := by kernel_rfl
theorem cInt : Try.prog.cellsOf 3 = 1 := by kernel_rfl
theorem fld {t : TypeId} {fs : Array Field} {fuel : Nat} {cs : List Value} {y : DataW H × List MemPlace} (ht : Try.prog.underlying t = some (.struct fs)) (h : DataW.trod enc Try.prog W base spare held fuel t cs = some y) (i : Nat) (f : Field) (o k : Nat) (e : TypeId) (hf : fs[i]? = some f) (ho : f.offset = o) (he : f.type = e) (hk : Try.prog.cellsOf e = k) :
    ∃ n y, DataW.trod enc Try.prog W base spare held n e ((cs.drop o).take k) = some y := by
  obtain ⟨xs, n, _, _, _, hl, hx⟩ := DataW.trod_struct ht h
  have g := hx i f hf
  have hi := (Array.getElem?_eq_some_iff.1 hf).1
  rw [ho, he, hk, List.getElem?_eq_getElem (by omega)] at g
  exact ⟨n, _, g⟩
theorem open_rd {α : Type} (f : α → List Value) (s : Nat) (hs : 0 < s) (_hfl : ∀ x, (f x).length = s) {t e : TypeId} (ht : Try.prog.underlying t = some (.slice e)) (ce : Try.prog.cellsOf e = s)
    (he : ∀ (fuel : Nat) (cs : List Value) (y : DataW H × List MemPlace), DataW.trod enc Try.prog W base (fun _ => true) held fuel e cs = some y → ∃ x, cs = f x)
    {fuel : Nat} {a : Option Addr} {len cap : Nat} {y : DataW H × List MemPlace} (h : DataW.trod enc Try.prog W base (fun _ => true) held fuel t [.slice a len cap] = some y) : (∃ xs, Rd f s W a len xs) ∧ (a = none → len = 0 ∧ cap = 0) := by
  rcases open_slice ht h with ⟨hcs, _⟩ | ⟨x, l, c, m, n, D, Pl, hcs, hb, hl, hm, hmm, _, hi⟩
  · simp at hcs
    obtain ⟨rfl, rfl, rfl⟩ := hcs
    exact ⟨⟨[], rfl, fun i v h => by simp at h⟩, fun _ => ⟨rfl, rfl⟩⟩
  · simp at hcs
    obtain ⟨rfl, rfl, rfl⟩ := hcs
    refine ⟨?_, fun h => by cases h⟩
    simp at hmm
    subst hmm
    rw [ce] at hi
    by_cases hz : len = 0
    · subst hz
      exact ⟨[], rfl, fun i v h => by simp at h⟩
    obtain ⟨b0, o0, sp⟩ := x
    have hsp : sp = none := by
      obtain ⟨cs', hc, ht⟩ := hi 0 (by omega)
      obtain ⟨_, hln, hat⟩ := World.cells?_some hc
      have e0 := hat 0 (by omega)
      rw [List.getElem?_eq_getElem (by omega)] at e0
      simpa [Addr.add] using World.cell?_spot e0
    subst hsp
    obtain ⟨vs, hvl, hvs⟩ := choose_list (P := fun i (v : α) => b0 < W.heap.size ∧ ∀ j u, (f v)[j]? = some u → W.cell? ⟨b0, o0 + i * s + j, none⟩ = some u) len (fun i hil => by
      obtain ⟨cs', hc, ht⟩ := hi i (by omega)
      obtain ⟨v, rfl⟩ := he _ _ _ ht
      obtain ⟨_, hln, hat⟩ := World.cells?_some hc
      refine ⟨v, ?_, fun j u hj => ?_⟩
      · have e0 := hat 0 (by omega)
        rw [List.getElem?_eq_getElem (by omega)] at e0
        simp only [Addr.add_lit, Nat.add_zero] at e0
        exact World.block_lt_of_cell? W _ e0
      · have hjl := (List.getElem?_eq_some_iff.1 hj).1
        have e0 := hat j (by omega)
        simp only [Addr.add_lit] at e0
        rw [e0, hj])
    exact ⟨vs, hvl, fun i v hv => ⟨b0, o0, rfl, (hvs i v hv).1, (hvs i v hv).2⟩⟩
theorem one_slice {t e : TypeId} (ht : Try.prog.underlying t = some (.slice e)) {fuel : Nat} {v : Value} {y : DataW H × List MemPlace} (h : DataW.trod enc Try.prog W base spare held fuel t [v] = some y) : ∃ a n c, v = .slice a n c := by
  rcases open_slice ht h with ⟨hcs, _⟩ | ⟨x, l, c, m, n, D, Pl, hcs, _⟩
  · simp at hcs; exact ⟨_, _, _, hcs⟩
  · simp at hcs; exact ⟨_, _, _, hcs⟩
theorem one_cell {e : TypeId} (_h1 : Try.prog.cellsOf e = 1) {fuel : Nat} {cs : List Value} {y : DataW H × List MemPlace} (k : IntKind) (he : Try.prog.underlying e = some (.int k)) (h : DataW.trod enc Try.prog W base spare held fuel e cs = some y) : ∃ x : Int, cs = [.int k x] := by
  obtain ⟨x, h1, _⟩ := DataW.trod_int he h
  exact ⟨x, h1⟩
theorem rdI_of {k : IntKind} {a : Option Addr} {n : Nat} {xs : List Int} (h : Rd (fun x : Int => [Value.int k x]) 1 W a n xs) : RdI k W a n xs := by
  refine ⟨h.1, fun i x hx => ?_⟩
  obtain ⟨b, o, hA, hb, hc⟩ := h.2 i x hx
  exact ⟨b, o, hA, hb, by simpa using hc 0 _ rfl⟩
theorem open_ints {t e : TypeId} (k : IntKind) (ht : Try.prog.underlying t = some (.slice e)) (he : Try.prog.underlying e = some (.int k)) (ce : Try.prog.cellsOf e = 1) {fuel : Nat} {a : Option Addr} {len cap : Nat} {y : DataW H × List MemPlace}
    (h : DataW.trod enc Try.prog W base (fun _ => true) held fuel t [.slice a len cap] = some y) : (∃ xs, RdI k W a len xs) ∧ (a = none → len = 0 ∧ cap = 0) := by
  obtain ⟨⟨xs, hx⟩, hn⟩ := open_rd (fun x : Int => [Value.int k x]) 1 (by omega) (fun _ => rfl) ht ce (fun fuel cs y h => one_cell ce k he h) h
  exact ⟨⟨xs, rdI_of hx⟩, hn⟩
theorem cField : Try.prog.cellsOf 84 = 2 := by kernel_rfl
theorem cLongs : Try.prog.cellsOf 30 = 1 := by kernel_rfl
theorem cInts : Try.prog.cellsOf 22 = 1 := by kernel_rfl
theorem cRow : Try.prog.cellsOf 54 = 4 := by kernel_rfl
set_option maxRecDepth 100000 in
theorem field_cells {cs : List Value} {n : Nat} {y : DataW H × List MemPlace} (h : DataW.trod enc Try.prog W base spare held n 84 cs = some y) : ∃ t : Fc, cs = t.cells := by
  obtain ⟨_, _, _, _, hlen, _, _⟩ := DataW.trod_struct Try.underlying84 h
  rw [cField] at hlen
  match cs, hlen with
  | [a0, a1], _ =>
    obtain ⟨n0, y0, h0⟩ := fld Try.underlying84 h 0 _ 0 1 2 rfl rfl rfl cLong
    obtain ⟨n1, y1, h1⟩ := fld Try.underlying84 h 1 _ 1 1 3 rfl rfl rfl cInt
    obtain ⟨a, rfl⟩ := one_long (by simpa using h0)
    obtain ⟨b, rfl⟩ := one_int (by simpa using h1)
    exact ⟨⟨a, b⟩, rfl⟩
theorem open_fields {a : Option Addr} {len cap : Nat} {d : DataW H} {p : List MemPlace} (h : DataW.Trod enc Try.prog W base (fun _ => true) held 29 (.slice a len cap) d p) : (∃ l, RdF W a len l) ∧ (a = none → len = 0 ∧ cap = 0) := by
  obtain ⟨fuel, hf⟩ := h
  exact open_rd Fc.cells 2 (by omega) (fun _ => rfl) Try.underlying29 cField (fun fuel cs y h => field_cells h) (show DataW.trod enc Try.prog W base (fun _ => true) held fuel 29 [.slice a len cap] = some (d, p) by simpa [Value.cells] using hf)
theorem open_longs {a : Option Addr} {len cap : Nat} {d : DataW H} {p : List MemPlace} (h : DataW.Trod enc Try.prog W base (fun _ => true) held 30 (.slice a len cap) d p) : (∃ l, RdI .i64 W a len l) ∧ (a = none → len = 0 ∧ cap = 0) := by
  obtain ⟨fuel, hf⟩ := h
  exact open_ints .i64 Try.underlying30 Try.underlying2 cLong (show DataW.trod enc Try.prog W base (fun _ => true) held fuel 30 [.slice a len cap] = some (d, p) by simpa [Value.cells] using hf)
theorem open_u16 {n : Int} {d : DataW H} {p : List MemPlace} (h : DataW.Trod enc Try.prog W base spare held 55 (.int .u16 n) d p) : ∃ y : Nat, n = (y : Nat) ∧ y < 65536 := by
  obtain ⟨fuel, hf⟩ := h
  obtain ⟨m, hc, _, hw⟩ := DataW.trod_int Try.underlying55 hf
  simp [Value.cells] at hc
  subst hc
  have hb := bounds_u16 hw
  exact ⟨n.toNat, (Int.toNat_of_nonneg hb.1).symm, by omega⟩
set_option maxRecDepth 100000 in
/-- A width, a base, a rise, and numbers, that came in. -/
theorem open_row {v : Value} {d : DataW H} {p : List MemPlace} {r : Reach} {b0 : Nat} (hv : Value.okWide Try.prog W r b0 54 v) (h : DataW.Trod enc Try.prog W base (fun _ => true) held 54 v d p) :
    ∃ (A : Option Addr) (n ca : Nat) (l : List Int) (x y z : Int), v = rowV x y z A n ca ∧ RdI .i64 W A n l := by
  obtain ⟨cs, rfl, hsz⟩ := okWide_struct Try.underlying54 hv
  rw [cRow] at hsz
  obtain ⟨fuel, hf⟩ := h
  obtain ⟨l⟩ := cs
  match l, hsz with
  | [a0, a1, a2, a3], _ =>
    obtain ⟨n0, y0, h0⟩ := fld Try.underlying54 hf 0 _ 0 1 2 rfl rfl rfl cLong
    obtain ⟨n1, y1, h1⟩ := fld Try.underlying54 hf 1 _ 1 1 2 rfl rfl rfl cLong
    obtain ⟨n2, y2, h2⟩ := fld Try.underlying54 hf 2 _ 2 1 2 rfl rfl rfl cLong
    obtain ⟨n3, y3, h3⟩ := fld Try.underlying54 hf 3 _ 3 1 30 rfl rfl rfl cLongs
    simp [Value.cells] at h0 h1 h2 h3
    obtain ⟨x, rfl⟩ := one_long h0
    obtain ⟨y, rfl⟩ := one_long h1
    obtain ⟨z, rfl⟩ := one_long h2
    obtain ⟨A, n, ca, rfl⟩ := one_slice Try.underlying30 h3
    obtain ⟨⟨ts, hts⟩, _⟩ := open_ints .i64 Try.underlying30 Try.underlying2 cLong h3
    exact ⟨A, n, ca, ts, x, y, z, rfl, hts⟩
end
end Go.Proofs.Ytakgcnjpmpcekaa

namespace Go.Proofs.Ytakgcnjpmpcekaa
open Go.ChangeShapes Go.WideShapes Go.RowKit Go.Deep Go.Kq

section
variable {H : Type} {enc : TypeId × Value → H} {W : World} {base : Nat} {spare : Nat → Bool} {held : Bool}
theorem cWanted : Try.prog.cellsOf 45 = 2 := by kernel_rfl
set_option maxRecDepth 100000 in
theorem open_wanted {v : Value} {d : DataW H} {p : List MemPlace} {r : Reach} {b0 : Nat} (hv : Value.okWide Try.prog W r b0 45 v) (h : DataW.Trod enc Try.prog W base (fun _ => true) held 45 v d p) :
    ∃ (A : Option Addr) (n ca : Nat) (l : List Int) (x : Int), v = wantV x A n ca ∧ RdI .i64 W A n l := by
  obtain ⟨cs, rfl, hsz⟩ := okWide_struct Try.underlying45 hv
  rw [cWanted] at hsz
  obtain ⟨fuel, hf⟩ := h
  obtain ⟨l⟩ := cs
  match l, hsz with
  | [a0, a1], _ =>
    obtain ⟨n0, y0, h0⟩ := fld Try.underlying45 hf 0 _ 0 1 2 rfl rfl rfl cLong
    obtain ⟨n1, y1, h1⟩ := fld Try.underlying45 hf 1 _ 1 1 22 rfl rfl rfl cInts
    simp [Value.cells] at h0 h1
    obtain ⟨x, rfl⟩ := one_long h0
    obtain ⟨A, n, ca, rfl⟩ := one_slice Try.underlying22 h1
    obtain ⟨⟨ts, hts⟩, _⟩ := open_ints .i64 Try.underlying22 Try.underlying3 cInt h1
    exact ⟨A, n, ca, ts, x, rfl, hts⟩
end
end Go.Proofs.Ytakgcnjpmpcekaa
