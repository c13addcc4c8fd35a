/- Chapter 24: a width, a base, a rise and numbers. · Chapter 24: the law Fills: the walk. · Chapter 24: how fields, numbers, plans, rows that came in are read. -/
import Derived.ProofKit
import Derived.OpenShut
import Derived.Deep.Slices
import Derived.Deep.Fields
import Derived.ChangeSame
import Derived.Test.YtakgcnjpmpcekaaGreatXFeAM
import Derived.Test.YtakgcnjpmpcekaaGreatXRfBaM
import Derived.Test.YtakgcnjpmpcekaaGreatXRfKM
import Derived.Test.YtakgcnjpmpcekaaGreatXFlAM
import Derived.Test.YtakgcnjpmpcekaaGreatXRwLM
namespace Go.Proofs.YtakgcnjpmpcekaaGreat

def rowV (W b z : Int) (R : Option Addr) (m cr : Nat) : Value := .agg #[.int .i64 W, .int .i64 b, .int .i64 z, .slice R m cr]
end Go.Proofs.YtakgcnjpmpcekaaGreat

namespace Go.Proofs.YtakgcnjpmpcekaaGreat
open Go.RowKit Go.Kq

theorem four_cells {w : World} {g : Nat} {a b c d : Value} {t : TypeId} (h : w.heap[g]? = some (.cells #[a, b, c, d] t (0, 0))) : w.cell? ⟨g, 0, none⟩ = some a ∧ w.cell? ⟨g, 1, none⟩ = some b ∧ w.cell? ⟨g, 2, none⟩ = some c ∧ w.cell? ⟨g, 3, none⟩ = some d := by
  refine ⟨?_, ?_, ?_, ?_⟩ <;> (rw [cell_of_row _ _ _ _ _ _ h]; rfl)
theorem fil_len (W : Int) (r : List Int) : (filL W r).length ≤ r.length := by
  unfold filL
  split
  · rw [pos_len]; exact Nat.le_refl _
  · simp
theorem fet_len (W : Int) (r : List Int) (b z : Int) : (fetL W r b z).length ≤ r.length := by
  unfold fetL
  split
  · simp
  · simp
set_option maxHeartbeats 8000000 in
set_option maxRecDepth 100000 in
theorem Fills_any (W b z : Int) (R : Option Addr) (m cr : Nat) (r : List Int) (w : World) (hR : RdI .i64 w R m r) :
    Calls Tryz.prog 3 #[rowV W b z R m cr] w fun e w' => e = .returned (.bool true) ∧ Kp No w w' := by
  unfold rowV
  obtain ⟨g, hg⟩ : ∃ g, g = w.heap.size := ⟨_, rfl⟩
  obtain ⟨w0, hw0⟩ : ∃ w0, w.alloc (.cells #[.int .i64 W, .int .i64 b, .int .i64 z, .slice R m cr] 24) = w0 := ⟨_, rfl⟩
  have hk0 : Kp No w w0 := by rw [← hw0]; exact Kp.alloc _ _ _
  have HBX := Lib.hid (show w0.heap[g]? = some (.cells #[.int .i64 W, .int .i64 b, .int .i64 z, .slice R m cr] 24 (0, 0)) by rw [← hw0, hg]; exact heap_alloc_new w _)
  have HK := Lib.hid hk0
  have HR := Lib.hid (hR.no hk0)
  have HRL := Lib.hid hR.1
  clear hk0 hR
  obtain ⟨p0, p1, p2, p3⟩ := four_cells HBX.out
  subst hg
  by_cases h70 : 70 < m
  · go_enter Tryz.func3, Tryz.ntmps3
    go_wp2_with fail
    refine (awake_any _).mono ?_
    rintro e w4 ⟨rfl, k4⟩
    go_wp2_with fail
    go_ret
    exact ⟨rfl, HK.out.tr k4⟩
  have FL := fil_len W r
  have TL := fet_len W r b z
  rw [HRL.out] at FL TL
  have F1 := fun w1 (k : Kp No w0 w1) => Fill_any W R m cr r w1 (HR.out.no k) (by omega)
  have F2 := fun w1 (k : Kp No w0 w1) => rFill_any W R m cr r w1 (HR.out.no k)
  have T1 := fun w1 (k : Kp No w0 w1) => Feet_any W R m cr r b z w1 (HR.out.no k) (by omega)
  have T2 := fun w1 (k : Kp No w0 w1) => rFeet_any W R m cr r b z w1 (HR.out.no k)
  unfold FilR at F1 F2
  unfold FetR at T1 T2
  generalize filG W r = G at *
  generalize filE W r = E at *
  generalize filL W r = L at *
  generalize fetL W r b z = M at *
  generalize fetE W r b z = H at *
  have F1 := Lib.hid F1
  have F2 := Lib.hid F2
  have T1 := Lib.hid T1
  have T2 := Lib.hid T2
  have d1 : (G == G) = true := by simp
  have d2 : (E == E) = true := by simp
  have d3 : (H == H) = true := by simp
  go_enter Tryz.func3, Tryz.ntmps3
  go_wp2_with fail
  with_reducible refine (F1.out _ (Kp.refl _ _)).mono ?_
  rintro e w1 ⟨A1, c1, rfl, o1, k1⟩
  have K1 := Lib.hid k1
  have R1 := Lib.hid (RdI.of_own (xs := L) o1)
  have B1 := Lib.hid (k1.heap HBX.out id)
  clear k1 o1 p0 p1 p2 p3 F1
  obtain ⟨p0, p1, p2, p3⟩ := four_cells B1.out
  go_wp2_with fail
  with_reducible refine (F2.out _ K1.out).mono ?_
  rintro e w2 ⟨A2, c2, rfl, o2, k2⟩
  have K2 := Lib.hid (K1.out.tr k2)
  have R2 := Lib.hid (RdI.of_own (xs := L) o2)
  have R12 := Lib.hid (R1.out.no k2)
  have B2 := Lib.hid (k2.heap B1.out id)
  clear k2 o2 p0 p1 p2 p3 F2
  obtain ⟨p0, p1, p2, p3⟩ := four_cells B2.out
  go_wp2_with fail
  with_reducible refine (T1.out _ K2.out).mono ?_
  rintro e w3 ⟨A3, c3, rfl, o3, k3⟩
  have K3 := Lib.hid (K2.out.tr k3)
  have R3 := Lib.hid (RdI.of_own (xs := M) o3)
  have R13 := Lib.hid (R12.out.no k3)
  have R23 := Lib.hid (R2.out.no k3)
  have B3 := Lib.hid (k3.heap B2.out id)
  clear k3 o3 p0 p1 p2 p3 T1
  obtain ⟨p0, p1, p2, p3⟩ := four_cells B3.out
  go_wp2_with fail
  with_reducible refine (T2.out _ K3.out).mono ?_
  rintro e w4 ⟨A4, c4, rfl, o4, k4⟩
  have K4 := Lib.hid (K3.out.tr k4)
  have R4 := Lib.hid (RdI.of_own (xs := M) o4)
  have R34 := Lib.hid (R3.out.no k4)
  have S1 := sameL_any A1 A2 L.length L.length c1 c2 L L w4 (by omega) (by omega) (R13.out.no k4) (R23.out.no k4)
  rw [show decide (L = L) = true from decide_eq_true rfl] at S1
  replace S1 := Lib.hid S1
  clear k4 o4 p0 p1 p2 p3 T2
  go_wp2_with fail
  with_reducible refine S1.out.mono ?_
  rintro e w5 ⟨rfl, q5, hw5⟩
  have k5 : Kp No w4 w5 := by rw [hw5]; exact Kp.drewN No _ _
  have S2 := sameL_any A3 A4 M.length M.length c3 c4 M M w5 (by omega) (by omega) (R34.out.no k5) (R4.out.no k5)
  rw [show decide (M = M) = true from decide_eq_true rfl] at S2
  replace S2 := Lib.hid S2
  have K5 := Lib.hid (K4.out.tr k5)
  clear k5 hw5 S1
  go_wp2_with fail
  with_reducible refine S2.out.mono ?_
  rintro e w6 ⟨rfl, q6, hw6⟩
  have k6 : Kp No w5 w6 := by rw [hw6]; exact Kp.drewN No _ _
  have K6 := Lib.hid (K5.out.tr k6)
  clear k6 hw6 S2
  go_wp2_with fail
  refine (awake_any _).mono ?_
  rintro e w7 ⟨rfl, k7⟩
  go_wp2_with fail
  go_ret
  exact ⟨rfl, HK.out.tr (K6.out.tr k7)⟩
end Go.Proofs.YtakgcnjpmpcekaaGreat

namespace Go.Proofs.YtakgcnjpmpcekaaGreat
open Go.ChangeShapes Go.WideShapes Go.RowKit Go.Deep Go.Kq

theorem choose_list {α : Type} {P : Nat → α → Prop} : ∀ n : Nat, (∀ i, i < n → ∃ a, P i a) → ∃ l : List α, l.length = n ∧ ∀ i a, l[i]? = some a → P i a
  | 0, _ => ⟨[], rfl, fun i a h => by simp at h⟩
  | n + 1, h => by
    obtain ⟨l, hl, hp⟩ := choose_list n fun i hi => h i (by omega)
    obtain ⟨a, ha⟩ := h n (by omega)
    refine ⟨l ++ [a], by simp [hl], fun i b hb => ?_⟩
    rcases Nat.lt_trichotomy i n with h1 | h1 | h1
    · rw [List.getElem?_append_left (by omega)] at hb
      exact hp i b hb
    · subst h1
      rw [List.getElem?_append_right (by omega), hl] at hb
      simp at hb
      exact hb ▸ ha
    · rw [List.getElem?_eq_none (by simp; omega)] at hb
      cases hb
section
variable {H : Type} {enc : TypeId × Value → H} {W : World} {base : Nat} {spare : Nat → Bool} {held : Bool}
theorem one_long {fuel : Nat} {v : Value} {y : DataW H × List MemPlace} (h : DataW.trod enc Tryz.prog W base spare held fuel 2 [v] = some y) : ∃ x : Int, v = .int .i64 x := by
  obtain ⟨x, h1, _⟩ := DataW.trod_int Tryz.underlying2 h
  simp at h1
  exact ⟨x, h1⟩
theorem one_int {fuel : Nat} {v : Value} {y : DataW H × List MemPlace} (h : DataW.trod enc Tryz.prog W base spare held fuel 3 [v] = some y) : ∃ x : Int, v = .int .i64 x := by
  obtain ⟨x, h1, _⟩ := DataW.trod_int Tryz.underlying3 h
  simp at h1
  exact ⟨x, h1⟩
theorem cLong : Tryz.prog.cellsOf 2 = 1 := by kernel_rfl
theorem cInt : Tryz.prog.cellsOf 3 = 1 := by kernel_rfl
theorem fld {t : TypeId} {fs : Array Field} {fuel : Nat} {cs : List Value} {y : DataW H × List MemPlace} (ht : Tryz.prog.underlying t = some (.struct fs)) (h : DataW.trod enc Tryz.prog W base spare held fuel t cs = some y) (i : Nat) (f : Field) (o k : Nat) (e : TypeId) (hf : fs[i]? = some f) (ho : f.offset = o) (he : f.type = e) (hk : Tryz.prog.cellsOf e = k) :
    ∃ n y, DataW.trod enc Tryz.prog W base spare held n e ((cs.drop o).take k) = some y := by
  obtain ⟨xs, n, _, _, _, hl, hx⟩ := DataW.trod_struct ht h
  have g := hx i f hf
  have hi := (Array.getElem?_eq_some_iff.1 hf).1
  rw [ho, he, hk, List.getElem?_eq_getElem (by omega)] at g
  exact ⟨n, _, g⟩
theorem open_rd {α : Type} (f : α → List Value) (s : Nat) (hs : 0 < s) (_hfl : ∀ x, (f x).length = s) {t e : TypeId} (ht : Tryz.prog.underlying t = some (.slice e)) (ce : Tryz.prog.cellsOf e = s)
    (he : ∀ (fuel : Nat) (cs : List Value) (y : DataW H × List MemPlace), DataW.trod enc Tryz.prog W base (fun _ => true) held fuel e cs = some y → ∃ x, cs = f x)
    {fuel : Nat} {a : Option Addr} {len cap : Nat} {y : DataW H × List MemPlace} (h : DataW.trod enc Tryz.prog W base (fun _ => true) held fuel t [.slice a len cap] = some y) : (∃ xs, Rd f s W a len xs) ∧ (a = none → len = 0 ∧ cap = 0) := by
  rcases open_slice ht h with ⟨hcs, _⟩ | ⟨x, l, c, m, n, D, Pl, hcs, hb, hl, hm, hmm, _, hi⟩
  · simp at hcs
    obtain ⟨rfl, rfl, rfl⟩ := hcs
    exact ⟨⟨[], rfl, fun i v h => by simp at h⟩, fun _ => ⟨rfl, rfl⟩⟩
  · simp at hcs
    obtain ⟨rfl, rfl, rfl⟩ := hcs
    refine ⟨?_, fun h => by cases h⟩
    simp at hmm
    subst hmm
    rw [ce] at hi
    by_cases hz : len = 0
    · subst hz
      exact ⟨[], rfl, fun i v h => by simp at h⟩
    obtain ⟨b0, o0, sp⟩ := x
    have hsp : sp = none := by
      obtain ⟨cs', hc, ht⟩ := hi 0 (by omega)
      obtain ⟨_, hln, hat⟩ := World.cells?_some hc
      have e0 := hat 0 (by omega)
      rw [List.getElem?_eq_getElem (by omega)] at e0
      simpa [Addr.add] using World.cell?_spot e0
    subst hsp
    obtain ⟨vs, hvl, hvs⟩ := choose_list (P := fun i (v : α) => b0 < W.heap.size ∧ ∀ j u, (f v)[j]? = some u → W.cell? ⟨b0, o0 + i * s + j, none⟩ = some u) len (fun i hil => by
      obtain ⟨cs', hc, ht⟩ := hi i (by omega)
      obtain ⟨v, rfl⟩ := he _ _ _ ht
      obtain ⟨_, hln, hat⟩ := World.cells?_some hc
      refine ⟨v, ?_, fun j u hj => ?_⟩
      · have e0 := hat 0 (by omega)
        rw [List.getElem?_eq_getElem (by omega)] at e0
        simp only [Addr.add_lit, Nat.add_zero] at e0
        exact World.block_lt_of_cell? W _ e0
      · have hjl := (List.getElem?_eq_some_iff.1 hj).1
        have e0 := hat j (by omega)
        simp only [Addr.add_lit] at e0
        rw [e0, hj])
    exact ⟨vs, hvl, fun i v hv => ⟨b0, o0, rfl, (hvs i v hv).1, (hvs i v hv).2⟩⟩
theorem one_slice {t e : TypeId} (ht : Tryz.prog.underlying t = some (.slice e)) {fuel : Nat} {v : Value} {y : DataW H × List MemPlace} (h : DataW.trod enc Tryz.prog W base spare held fuel t [v] = some y) : ∃ a n c, v = .slice a n c := by
  rcases open_slice ht h with ⟨hcs, _⟩ | ⟨x, l, c, m, n, D, Pl, hcs, _⟩
  · simp at hcs; exact ⟨_, _, _, hcs⟩
  · simp at hcs; exact ⟨_, _, _, hcs⟩
theorem one_cell {e : TypeId} (_h1 : Tryz.prog.cellsOf e = 1) {fuel : Nat} {cs : List Value} {y : DataW H × List MemPlace} (k : IntKind) (he : Tryz.prog.underlying e = some (.int k)) (h : DataW.trod enc Tryz.prog W base spare held fuel e cs = some y) : ∃ x : Int, cs = [.int k x] := by
  obtain ⟨x, h1, _⟩ := DataW.trod_int he h
  exact ⟨x, h1⟩
theorem rdI_of {k : IntKind} {a : Option Addr} {n : Nat} {xs : List Int} (h : Rd (fun x : Int => [Value.int k x]) 1 W a n xs) : RdI k W a n xs := by
  refine ⟨h.1, fun i x hx => ?_⟩
  obtain ⟨b, o, hA, hb, hc⟩ := h.2 i x hx
  exact ⟨b, o, hA, hb, by simpa using hc 0 _ rfl⟩
theorem open_ints {t e : TypeId} (k : IntKind) (ht : Tryz.prog.underlying t = some (.slice e)) (he : Tryz.prog.underlying e = some (.int k)) (ce : Tryz.prog.cellsOf e = 1) {fuel : Nat} {a : Option Addr} {len cap : Nat} {y : DataW H × List MemPlace}
    (h : DataW.trod enc Tryz.prog W base (fun _ => true) held fuel t [.slice a len cap] = some y) : (∃ xs, RdI k W a len xs) ∧ (a = none → len = 0 ∧ cap = 0) := by
  obtain ⟨⟨xs, hx⟩, hn⟩ := open_rd (fun x : Int => [Value.int k x]) 1 (by omega) (fun _ => rfl) ht ce (fun fuel cs y h => one_cell ce k he h) h
  exact ⟨⟨xs, rdI_of hx⟩, hn⟩
theorem cField : Tryz.prog.cellsOf 57 = 2 := by kernel_rfl
theorem cLongs : Tryz.prog.cellsOf 22 = 1 := by kernel_rfl
theorem cInts : Tryz.prog.cellsOf 36 = 1 := by kernel_rfl
theorem cRow : Tryz.prog.cellsOf 24 = 4 := by kernel_rfl
set_option maxRecDepth 100000 in
theorem field_cells {cs : List Value} {n : Nat} {y : DataW H × List MemPlace} (h : DataW.trod enc Tryz.prog W base spare held n 57 cs = some y) : ∃ t : Fc, cs = t.cells := by
  obtain ⟨_, _, _, _, hlen, _, _⟩ := DataW.trod_struct Tryz.underlying57 h
  rw [cField] at hlen
  match cs, hlen with
  | [a0, a1], _ =>
    obtain ⟨n0, y0, h0⟩ := fld Tryz.underlying57 h 0 _ 0 1 2 rfl rfl rfl cLong
    obtain ⟨n1, y1, h1⟩ := fld Tryz.underlying57 h 1 _ 1 1 3 rfl rfl rfl cInt
    obtain ⟨a, rfl⟩ := one_long (by simpa using h0)
    obtain ⟨b, rfl⟩ := one_int (by simpa using h1)
    exact ⟨⟨a, b⟩, rfl⟩
theorem open_fields {a : Option Addr} {len cap : Nat} {d : DataW H} {p : List MemPlace} (h : DataW.Trod enc Tryz.prog W base (fun _ => true) held 33 (.slice a len cap) d p) : (∃ l, RdF W a len l) ∧ (a = none → len = 0 ∧ cap = 0) := by
  obtain ⟨fuel, hf⟩ := h
  exact open_rd Fc.cells 2 (by omega) (fun _ => rfl) Tryz.underlying33 cField (fun fuel cs y h => field_cells h) (show DataW.trod enc Tryz.prog W base (fun _ => true) held fuel 33 [.slice a len cap] = some (d, p) by simpa [Value.cells] using hf)
theorem open_longs {a : Option Addr} {len cap : Nat} {d : DataW H} {p : List MemPlace} (h : DataW.Trod enc Tryz.prog W base (fun _ => true) held 22 (.slice a len cap) d p) : (∃ l, RdI .i64 W a len l) ∧ (a = none → len = 0 ∧ cap = 0) := by
  obtain ⟨fuel, hf⟩ := h
  exact open_ints .i64 Tryz.underlying22 Tryz.underlying2 cLong (show DataW.trod enc Tryz.prog W base (fun _ => true) held fuel 22 [.slice a len cap] = some (d, p) by simpa [Value.cells] using hf)
set_option maxRecDepth 100000 in
/-- A width, a base, a rise, and numbers, that came in. -/
theorem open_row {v : Value} {d : DataW H} {p : List MemPlace} {r : Reach} {b0 : Nat} (hv : Value.okWide Tryz.prog W r b0 24 v) (h : DataW.Trod enc Tryz.prog W base (fun _ => true) held 24 v d p) :
    ∃ (A : Option Addr) (n ca : Nat) (l : List Int) (x y z : Int), v = rowV x y z A n ca ∧ RdI .i64 W A n l := by
  obtain ⟨cs, rfl, hsz⟩ := okWide_struct Tryz.underlying24 hv
  rw [cRow] at hsz
  obtain ⟨fuel, hf⟩ := h
  obtain ⟨l⟩ := cs
  match l, hsz with
  | [a0, a1, a2, a3], _ =>
    obtain ⟨n0, y0, h0⟩ := fld Tryz.underlying24 hf 0 _ 0 1 2 rfl rfl rfl cLong
    obtain ⟨n1, y1, h1⟩ := fld Tryz.underlying24 hf 1 _ 1 1 2 rfl rfl rfl cLong
    obtain ⟨n2, y2, h2⟩ := fld Tryz.underlying24 hf 2 _ 2 1 2 rfl rfl rfl cLong
    obtain ⟨n3, y3, h3⟩ := fld Tryz.underlying24 hf 3 _ 3 1 22 rfl rfl rfl cLongs
    simp [Value.cells] at h0 h1 h2 h3
    obtain ⟨x, rfl⟩ := one_long h0
    obtain ⟨y, rfl⟩ := one_long h1
    obtain ⟨z, rfl⟩ := one_long h2
    obtain ⟨A, n, ca, rfl⟩ := one_slice Tryz.underlying22 h3
    obtain ⟨⟨ts, hts⟩, _⟩ := open_ints .i64 Tryz.underlying22 Tryz.underlying2 cLong h3
    exact ⟨A, n, ca, ts, x, y, z, rfl, hts⟩
end
end Go.Proofs.YtakgcnjpmpcekaaGreat
