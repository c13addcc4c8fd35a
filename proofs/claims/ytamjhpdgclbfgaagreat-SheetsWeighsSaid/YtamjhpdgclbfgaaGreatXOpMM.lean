/- Chapter 09: the law of Metal and Weight: the walk. · Chapter 09: how cuts and metal that came in are read. -/
import Derived.ProofKit
import Derived.OpenShut
import Derived.Deep.Slices
import Derived.Deep.Fields
import Derived.ChangeSame
import Derived.Test.YtamjhpdgclbfgaaGreatXMtAM
import Derived.Test.YtamjhpdgclbfgaaGreatXLibHxM
import Derived.Test.YtamjhpdgclbfgaaGreatXAwk
import Derived.Test.YtamjhpdgclbfgaaGreatXShAM
namespace Go.Proofs.YtamjhpdgclbfgaaGreat
open Go.RowKit Go.Kq

set_option maxHeartbeats 8000000 in
set_option maxRecDepth 100000 in
theorem tweighs_any (A : Option Addr) (n ca : Nat) (l : List Ct) (ar th de : Int) (w : World) (hx : RdC w A n l) :
    Calls Tryz.prog 4 #[.agg #[.slice A n ca, .int .i64 ar, .int .i64 th, .int .i64 de]] w fun e w' => e = .returned (.bool true) ∧ Kp No w w' := by
  have HX := Lib.hid hx
  have hk0 : Kp No w (w.alloc (.cells #[.slice A n ca, .int .i64 ar, .int .i64 th, .int .i64 de] 34)) := Kp.alloc _ _ _
  have h0 : (w.alloc (.cells #[.slice A n ca, .int .i64 ar, .int .i64 th, .int .i64 de] 34)).heap[w.heap.size]? = some (.cells #[.slice A n ca, .int .i64 ar, .int .i64 th, .int .i64 de] 34 (0, 0)) := heap_alloc_new _ _
  clear hx
  go_enter Tryz.func4, Tryz.ntmps4
  by_cases hm : 210 < (n : Int)
  · clear h0 HX
    go_wp2_with fail
    with_reducible refine (awake_any _).mono ?_
    rintro e w1 ⟨rfl, k1⟩
    have K1 := Lib.hid (hk0.tr k1)
    clear k1 hk0
    go_wp2_with fail
    go_ret
    exact ⟨rfl, K1.out⟩
  have HM := Lib.hid (fun w0 (k : Kp No w w0) => Metal_any A n ca l w0 (HX.out.no k) (by omega))
  have HR := Lib.hid (fun w0 (k : Kp No w w0) => rMetal_any A n ca l w0 (HX.out.no k) (by omega))
  have HW := Lib.hid (fun w0 => Weight_any ar th de w0)
  have HV := Lib.hid (fun w0 => rWeight_any ar th de w0)
  generalize metV l = mv at *
  generalize wgtV ar th de = wv at *
  obtain ⟨m1, m2⟩ := mv
  obtain ⟨x1, x2, x3⟩ := wv
  simp only [ieV, ivV] at HM HR HW HV
  go_wp2_with fail
  obtain ⟨g0, hg0⟩ : ∃ g0, g0 = w.heap.size := ⟨_, rfl⟩
  rw [← hg0] at h0 ⊢
  generalize w.alloc (.cells #[.slice A n ca, .int .i64 ar, .int .i64 th, .int .i64 de] 34) = w0 at *
  with_reducible refine (HM.out w0 hk0).mono ?_
  rintro e w1 ⟨rfl, k1⟩
  have K1 := Lib.hid (hk0.tr k1)
  have H1 := Lib.hid (k1.heap h0 id)
  have c0 : w1.cell? ⟨g0, 0, none⟩ = some (.slice A n ca) := by rw [cell_of_row _ _ _ _ _ _ H1.out]; rfl
  clear k1 h0 hk0 hg0 HM
  go_wp2_with fail
  with_reducible refine (HR.out w1 K1.out).mono ?_
  rintro e w2 ⟨rfl, k2⟩
  have K2 := Lib.hid (K1.out.tr k2)
  have H2 := Lib.hid (k2.heap H1.out id)
  have c1 : w2.cell? ⟨g0, 1, none⟩ = some (.int .i64 ar) := by rw [cell_of_row _ _ _ _ _ _ H2.out]; rfl
  have c2 : w2.cell? ⟨g0, 2, none⟩ = some (.int .i64 th) := by rw [cell_of_row _ _ _ _ _ _ H2.out]; rfl
  have c3 : w2.cell? ⟨g0, 3, none⟩ = some (.int .i64 de) := by rw [cell_of_row _ _ _ _ _ _ H2.out]; rfl
  clear k2 c0 K1 H1 HR
  go_wp2_with fail
  with_reducible refine (HW.out w2).mono ?_
  rintro e w3 ⟨rfl, k3⟩
  have K3 := Lib.hid (K2.out.tr k3)
  have H3 := Lib.hid (k3.heap H2.out id)
  clear k3 c1 c2 c3 K2 H2 HW
  obtain ⟨g3, hg3⟩ : ∃ g3, w3.heap.size = g3 := ⟨_, rfl⟩
  obtain ⟨w4, hw4⟩ : ∃ w4, w3.alloc (.cells #[.int .i64 x1, .int .i64 x2] 38) = w4 := ⟨_, rfl⟩
  have k4 : Kp No w3 w4 := by rw [← hw4]; exact Kp.alloc _ _ _
  have A4 := Lib.hid (show w4.heap[g3]? = some (.cells #[.int .i64 x1, .int .i64 x2] 38 (0, 0)) by rw [← hw4, ← hg3]; exact heap_alloc_new _ _)
  have K4 := Lib.hid (K3.out.tr k4)
  have H4 := Lib.hid (k4.heap H3.out id)
  have c1 : w4.cell? ⟨g0, 1, none⟩ = some (.int .i64 ar) := by rw [cell_of_row _ _ _ _ _ _ H4.out]; rfl
  have c2 : w4.cell? ⟨g0, 2, none⟩ = some (.int .i64 th) := by rw [cell_of_row _ _ _ _ _ _ H4.out]; rfl
  have c3 : w4.cell? ⟨g0, 3, none⟩ = some (.int .i64 de) := by rw [cell_of_row _ _ _ _ _ _ H4.out]; rfl
  clear k4 K3 H3
  go_wp2_with fail
  clear hw4 hg3
  with_reducible refine (HV.out w4).mono ?_
  rintro e w5 ⟨rfl, k5⟩
  have K5 := Lib.hid (K4.out.tr k5)
  have A5 := Lib.hid (k5.heap A4.out id)
  clear k5 c1 c2 c3 K4 H4 A4 HV
  obtain ⟨g5, hg5⟩ : ∃ g5, w5.heap.size = g5 := ⟨_, rfl⟩
  obtain ⟨w6, hw6⟩ : ∃ w6, w5.alloc (.cells #[.int .i64 x1, .int .i64 x2] 38) = w6 := ⟨_, rfl⟩
  have k6 : Kp No w5 w6 := by rw [← hw6]; exact Kp.alloc _ _ _
  have B6 := Lib.hid (show w6.heap[g5]? = some (.cells #[.int .i64 x1, .int .i64 x2] 38 (0, 0)) by rw [← hw6, ← hg5]; exact heap_alloc_new _ _)
  have K6 := Lib.hid (K5.out.tr k6)
  have A6 := Lib.hid (k6.heap A5.out id)
  have a0 : w6.cell? ⟨g3, 0, none⟩ = some (.int .i64 x1) := by rw [cell_of_row _ _ _ _ _ _ A6.out]; rfl
  have a1 : w6.cell? ⟨g3, 1, none⟩ = some (.int .i64 x2) := by rw [cell_of_row _ _ _ _ _ _ A6.out]; rfl
  have b0 : w6.cell? ⟨g5, 0, none⟩ = some (.int .i64 x1) := by rw [cell_of_row _ _ _ _ _ _ B6.out]; rfl
  have b1 : w6.cell? ⟨g5, 1, none⟩ = some (.int .i64 x2) := by rw [cell_of_row _ _ _ _ _ _ B6.out]; rfl
  have ceq : ∀ w', (Op.equalIn 10000 38 (.agg #[.int .i64 x1, .int .i64 x2]) (.agg #[.int .i64 x1, .int .i64 x2])).run Tryz.prog w' = .ok true w' := fun w' => by rw [iv_equal]; simp
  clear k6 K5 A5
  go_wp2_with fail
  clear hw6 hg5
  with_reducible refine (awake_any w6).mono ?_
  rintro e w7 ⟨rfl, k7⟩
  have K7 := Lib.hid (K6.out.tr k7)
  clear k7
  go_wp2_with fail
  go_ret
  exact ⟨rfl, K7.out⟩
end Go.Proofs.YtamjhpdgclbfgaaGreat

namespace Go.Proofs.YtamjhpdgclbfgaaGreat
open Go.ChangeShapes Go.WideShapes Go.RowKit Go.Deep Go.Kq

theorem choose_list {α : Type} {P : Nat → α → Prop} : ∀ n : Nat, (∀ i, i < n → ∃ a, P i a) → ∃ l : List α, l.length = n ∧ ∀ i a, l[i]? = some a → P i a
  | 0, _ => ⟨[], rfl, fun i a h => by simp at h⟩
  | n + 1, h => by
    obtain ⟨l, hl, hp⟩ := choose_list n fun i hi => h i (by omega)
    obtain ⟨a, ha⟩ := h n (by omega)
    refine ⟨l ++ [a], by simp [hl], fun i b hb => ?_⟩
    rcases Nat.lt_trichotomy i n with h1 | h1 | h1
    · rw [List.getElem?_append_left (by omega)] at hb
      exact hp i b hb
    · subst h1
      rw [List.getElem?_append_right (by omega), hl] at hb
      simp at hb
      exact hb ▸ ha
    · rw [List.getElem?_eq_none (by simp; omega)] at hb
      cases hb
section
variable {H : Type} {enc : TypeId × Value → H} {W : World} {base : Nat} {spare : Nat → Bool} {held : Bool}
theorem one_long {fuel : Nat} {v : Value} {y : DataW H × List MemPlace} (h : DataW.trod enc Tryz.prog W base spare held fuel 2 [v] = some y) : ∃ x : Int, v = .int .i64 x := by
  obtain ⟨x, h1, _⟩ := DataW.trod_int Tryz.underlying2 h
  simp at h1
  exact ⟨x, h1⟩
theorem cLong : Tryz.prog.cellsOf 2 = 1 := by kernel_rfl
theorem cCut : Tryz.prog.cellsOf 25 = 2 := by kernel_rfl
theorem cCuts : Tryz.prog.cellsOf 32 = 1 := by kernel_rfl
theorem fld {t : TypeId} {fs : Array Field} {fuel : Nat} {cs : List Value} {y : DataW H × List MemPlace} (ht : Tryz.prog.underlying t = some (.struct fs)) (h : DataW.trod enc Tryz.prog W base spare held fuel t cs = some y) (i : Nat) (f : Field) (o k : Nat) (e : TypeId) (hf : fs[i]? = some f) (ho : f.offset = o) (he : f.type = e) (hk : Tryz.prog.cellsOf e = k) :
    ∃ n y, DataW.trod enc Tryz.prog W base spare held n e ((cs.drop o).take k) = some y := by
  obtain ⟨xs, n, _, _, _, hl, hx⟩ := DataW.trod_struct ht h
  have g := hx i f hf
  have hi := (Array.getElem?_eq_some_iff.1 hf).1
  rw [ho, he, hk, List.getElem?_eq_getElem (by omega)] at g
  exact ⟨n, _, g⟩
set_option maxRecDepth 100000 in
theorem cut_cells {cs : List Value} {n : Nat} {y : DataW H × List MemPlace} (h : DataW.trod enc Tryz.prog W base spare held n 25 cs = some y) : ∃ t : Ct, cs = t.cells := by
  obtain ⟨_, _, _, _, hlen, _, _⟩ := DataW.trod_struct Tryz.underlying25 h
  rw [cCut] at hlen
  match cs, hlen with
  | [a0, a1], _ =>
    obtain ⟨n0, y0, h0⟩ := fld Tryz.underlying25 h 0 _ 0 1 2 rfl rfl rfl cLong
    obtain ⟨n1, y1, h1⟩ := fld Tryz.underlying25 h 1 _ 1 1 2 rfl rfl rfl cLong
    obtain ⟨a, rfl⟩ := one_long (by simpa using h0)
    obtain ⟨b, rfl⟩ := one_long (by simpa using h1)
    exact ⟨⟨a, b⟩, rfl⟩
theorem open_rd {α : Type} (f : α → List Value) (s : Nat) (hs : 0 < s) (_hfl : ∀ x, (f x).length = s) {t e : TypeId} (ht : Tryz.prog.underlying t = some (.slice e)) (ce : Tryz.prog.cellsOf e = s)
    (he : ∀ (fuel : Nat) (cs : List Value) (y : DataW H × List MemPlace), DataW.trod enc Tryz.prog W base (fun _ => true) held fuel e cs = some y → ∃ x, cs = f x)
    {fuel : Nat} {a : Option Addr} {len cap : Nat} {y : DataW H × List MemPlace} (h : DataW.trod enc Tryz.prog W base (fun _ => true) held fuel t [.slice a len cap] = some y) : (∃ xs, Rd f s W a len xs) ∧ (a = none → len = 0 ∧ cap = 0) := by
  rcases open_slice ht h with ⟨hcs, _⟩ | ⟨x, l, c, m, n, D, Pl, hcs, hb, hl, hm, hmm, _, hi⟩
  · simp at hcs
    obtain ⟨rfl, rfl, rfl⟩ := hcs
    exact ⟨⟨[], rfl, fun i v h => by simp at h⟩, fun _ => ⟨rfl, rfl⟩⟩
  · simp at hcs
    obtain ⟨rfl, rfl, rfl⟩ := hcs
    refine ⟨?_, fun h => by cases h⟩
    simp at hmm
    subst hmm
    rw [ce] at hi
    by_cases hz : len = 0
    · subst hz
      exact ⟨[], rfl, fun i v h => by simp at h⟩
    obtain ⟨b0, o0, sp⟩ := x
    have hsp : sp = none := by
      obtain ⟨cs', hc, ht⟩ := hi 0 (by omega)
      obtain ⟨_, hln, hat⟩ := World.cells?_some hc
      have e0 := hat 0 (by omega)
      rw [List.getElem?_eq_getElem (by omega)] at e0
      simpa [Addr.add] using World.cell?_spot e0
    subst hsp
    obtain ⟨vs, hvl, hvs⟩ := choose_list (P := fun i (v : α) => b0 < W.heap.size ∧ ∀ j u, (f v)[j]? = some u → W.cell? ⟨b0, o0 + i * s + j, none⟩ = some u) len (fun i hil => by
      obtain ⟨cs', hc, ht⟩ := hi i (by omega)
      obtain ⟨v, rfl⟩ := he _ _ _ ht
      obtain ⟨_, hln, hat⟩ := World.cells?_some hc
      refine ⟨v, ?_, fun j u hj => ?_⟩
      · have e0 := hat 0 (by omega)
        rw [List.getElem?_eq_getElem (by omega)] at e0
        simp only [Addr.add_lit, Nat.add_zero] at e0
        exact World.block_lt_of_cell? W _ e0
      · have hjl := (List.getElem?_eq_some_iff.1 hj).1
        have e0 := hat j (by omega)
        simp only [Addr.add_lit] at e0
        rw [e0, hj])
    exact ⟨vs, hvl, fun i v hv => ⟨b0, o0, rfl, (hvs i v hv).1, (hvs i v hv).2⟩⟩
theorem one_slice {t e : TypeId} (ht : Tryz.prog.underlying t = some (.slice e)) {fuel : Nat} {v : Value} {y : DataW H × List MemPlace} (h : DataW.trod enc Tryz.prog W base spare held fuel t [v] = some y) : ∃ a n c, v = .slice a n c := by
  rcases open_slice ht h with ⟨hcs, _⟩ | ⟨x, l, c, m, n, D, Pl, hcs, _⟩
  · simp at hcs; exact ⟨_, _, _, hcs⟩
  · simp at hcs; exact ⟨_, _, _, hcs⟩
theorem cMetal : Tryz.prog.cellsOf 34 = 4 := by kernel_rfl
set_option maxRecDepth 100000 in
/-- Cuts, and three numbers, that came in. -/
theorem open_metal {v : Value} {d : DataW H} {p : List MemPlace} {r : Reach} {b0 : Nat} (hv : Value.okWide Tryz.prog W r b0 34 v) (h : DataW.Trod enc Tryz.prog W base (fun _ => true) held 34 v d p) :
    ∃ (A : Option Addr) (n ca : Nat) (l : List Ct) (x y z : Int), v = .agg #[.slice A n ca, .int .i64 x, .int .i64 y, .int .i64 z] ∧ RdC W A n l := by
  obtain ⟨cs, rfl, hsz⟩ := okWide_struct Tryz.underlying34 hv
  rw [cMetal] at hsz
  obtain ⟨fuel, hf⟩ := h
  obtain ⟨l⟩ := cs
  match l, hsz with
  | [a0, a1, a2, a3], _ =>
    obtain ⟨n0, y0, h0⟩ := fld Tryz.underlying34 hf 0 _ 0 1 32 rfl rfl rfl cCuts
    obtain ⟨n1, y1, h1⟩ := fld Tryz.underlying34 hf 1 _ 1 1 2 rfl rfl rfl cLong
    obtain ⟨n2, y2, h2⟩ := fld Tryz.underlying34 hf 2 _ 2 1 2 rfl rfl rfl cLong
    obtain ⟨n3, y3, h3⟩ := fld Tryz.underlying34 hf 3 _ 3 1 2 rfl rfl rfl cLong
    simp [Value.cells] at h0 h1 h2 h3
    obtain ⟨A, n, ca, rfl⟩ := one_slice Tryz.underlying32 h0
    obtain ⟨x, rfl⟩ := one_long h1
    obtain ⟨y, rfl⟩ := one_long h2
    obtain ⟨z, rfl⟩ := one_long h3
    obtain ⟨⟨ts, hts⟩, _⟩ := open_rd Ct.cells 2 (by omega) (fun _ => rfl) Tryz.underlying32 cCut (fun fuel cs y h => cut_cells h) h0
    exact ⟨A, n, ca, ts, x, y, z, rfl, hts⟩
end
end Go.Proofs.YtamjhpdgclbfgaaGreat
