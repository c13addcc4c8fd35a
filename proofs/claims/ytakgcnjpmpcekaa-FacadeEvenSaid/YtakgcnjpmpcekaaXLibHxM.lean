/- Chapter 24: the law's ends. · A slot that one operation of a region writes, ahead of it. No program in sight. · A region that draws its order, calls what writes nothing, and stores one cell: an invariant for wp_region_each. No program in sight. -/
import Derived.Test.YtakgcnjpmpcekaaXFeA
import Derived.Test.YtakgcnjpmpcekaaXLibReg
import Derived.Test.YtakgcnjpmpcekaaXLibHmM
namespace Go.Proofs.Ytakgcnjpmpcekaa
open Go.RowKit Go.Kq

def rowV (W b z : Int) (R : Option Addr) (m cr : Nat) : Value := .agg #[.int .i64 W, .int .i64 b, .int .i64 z, .slice R m cr]
set_option maxHeartbeats 4000000 in
theorem ends_yes (W b z g : Int) (R A : Option Addr) (m cr ca : Nat) (r x : List Int) (x0 y0 xn yn : Int) (w : World) (hm : 0 < m) (hm2 : m ≤ 60) (hR : RdI .i64 w R m r) (hA : RdI .i64 w A m x) (h1 : x[0]? = some x0) (h2 : r[0]? = some y0) (h3 : x[m - 1]? = some xn) (h4 : r[m - 1]? = some yn)
    (hW : 0 ≤ W ∧ W ≤ 10000000) (b1 : 0 ≤ x0 ∧ x0 ≤ 10000000) (b2 : 0 ≤ y0 ∧ y0 ≤ 10000000) (b3 : 0 ≤ xn ∧ xn ≤ 10000000) (_b4 : 0 ≤ yn ∧ yn ≤ 10000000) (hg : g ≤ x0 - y0) (hl : x0 - y0 ≤ W - xn - yn) (hr : W - xn - yn - (x0 - y0) ≤ 1) :
    Calls Try.prog 28 #[rowV W b z R m cr, .int .i64 g, .slice A m ca] w fun e w' => e = .returned (.bool true) ∧ Kp No w w' := by
  have hk : Kp No w (w.alloc (.cells #[.int .i64 W, .int .i64 b, .int .i64 z, .slice R m cr] 54)) := Kp.alloc _ _ _
  have p0 : (w.alloc (.cells #[.int .i64 W, .int .i64 b, .int .i64 z, .slice R m cr] 54)).cell? ⟨w.heap.size, 0, none⟩ = some (.int .i64 W) := by go_simp
  have p3 : (w.alloc (.cells #[.int .i64 W, .int .i64 b, .int .i64 z, .slice R m cr] 54)).cell? ⟨w.heap.size, 3, none⟩ = some (.slice R m cr) := by go_simp
  obtain ⟨o1, q1, rfl, _, c1⟩ := (hA.no hk).2 0 x0 h1
  obtain ⟨o2, q2, rfl, _, c2⟩ := (hR.no hk).2 0 y0 h2
  obtain ⟨o3, q3, e3, _, c3⟩ := (hA.no hk).2 (m - 1) xn h3
  obtain ⟨o4, q4, e4, _, c4⟩ := (hR.no hk).2 (m - 1) yn h4
  injection e3 with e3
  injection e3 with e3a e3b
  injection e4 with e4
  injection e4 with e4a e4b
  subst e3a e3b e4a e4b
  rw [Nat.add_zero] at c1 c2
  obtain ⟨k, hkm⟩ : ∃ k, k = m - 1 := ⟨_, rfl⟩
  rw [← hkm] at c3 c4
  have hki : (m : Int) - 1 = (k : Int) := by omega
  have hkl : k < m := by omega
  have HK := Lib.hid hk
  clear hkm h1 h2 h3 h4 hR hA hk
  unfold rowV
  generalize hw0 : w.alloc (.cells #[.int .i64 W, .int .i64 b, .int .i64 z, .slice (some ⟨o2, q2, none⟩) m cr] 54) = w0 at *
  go_enter Try.func28, Try.ntmps28
  go_wp2_with fail
  go_quiet (fail)
  go_wp2_with fail
  go_ret
  refine ⟨ret_bool ?_, HK.out.tr (Kp.drewN No _ _)⟩
  simp
end Go.Proofs.Ytakgcnjpmpcekaa

namespace Go.Kq
open Go.RowKit

def freeButB (l : List Oper) (t : Tmp) (i : Nat) : Bool := (List.range l.length).all fun j => decide (j = i) || (match l[j]? with | some o => (match o.dst with | some d => decide (d ≠ t) | none => true) | none => true)
theorem Fr.evalYet {a0 a : Act} {r : Nat → Option Value} {l : List Oper} (h : Fr l.toArray a0 r a) {t : Tmp} {i : Nat} (hr : r i = none) (hf : freeButB l t i = true) : a.tmps.getD t undef = a0.tmps.getD t undef := by
  have := h.rest t fun j o hj ho => by
    have hj' : l[j]? = some o := by simpa using hj
    have hlt := (List.getElem?_eq_some_iff.1 hj').1
    have := List.all_eq_true.1 hf j (List.mem_range.2 hlt)
    rw [hj'] at this
    simp only [ho, Bool.or_eq_true, decide_eq_true_eq, ne_eq, not_true_eq_false, or_false] at this
    rw [this, hr]
  simp [this]
end Go.Kq

namespace Go.Kq
open Go.RowKit

/-- Operation st stores V at ad; ch: which operation comes behind which one. -/
structure HvC (base : World) (ad : Addr) (V : Value) (st : Nat) (ch : List (Nat × Nat)) (r : Nat → Option Value) (w : World) : Prop where
  b0 : r st = none → Kp No base w
  b1 : r st ≠ none → ∃ w0, Kp No base w0 ∧ w = w0.setCell ad V
  bl : ∀ p ∈ ch, r p.1 ≠ none → r p.2 ≠ none
section
variable {base w : World} {ad : Addr} {V : Value} {st : Nat} {ch : List (Nat × Nat)} {r : Nat → Option Value}
theorem HvC.start (base : World) (ad : Addr) (V : Value) (st : Nat) (ch : List (Nat × Nat)) : HvC base ad V st ch (fun _ => none) base.drew := ⟨fun _ => Kp.drew _ _, fun h => absurd rfl h, fun _ _ h => absurd rfl h⟩
theorem HvC.back (h : HvC base ad V st ch r w) {x y : Nat} (hp : (x, y) ∈ ch) (hy : r y = none) : r x = none :=
  Classical.byContradiction fun e => h.bl _ hp e hy
theorem upd_some {r : Nat → Option Value} {i j : Nat} {v : Value} (h : r j ≠ none) : Kq.upd r i v j ≠ none := by
  by_cases e : j = i
  · subst e; rw [upd_same]; exact fun h => by cases h
  · rw [upd_ne _ _ e]; exact h
theorem chain_upd {r : Nat → Option Value} {i : Nat} {v : Value} (hb : ∀ p ∈ ch, r p.1 ≠ none → r p.2 ≠ none) (hc : ∀ p ∈ ch, p.1 = i → r p.2 ≠ none) : ∀ p ∈ ch, Kq.upd r i v p.1 ≠ none → Kq.upd r i v p.2 ≠ none := fun p hp h => by
  by_cases e : p.1 = i
  · exact upd_some (hc p hp e)
  · rw [upd_ne _ _ e] at h
    exact upd_some (hb p hp h)
theorem HvC.updL (h : HvC base ad V st ch r w) (i : Nat) (v : Value) (hi : i ≠ st) (hc : ∀ p ∈ ch, p.1 = i → r p.2 ≠ none) : HvC base ad V st ch (Kq.upd r i v) w := by
  have e1 : Kq.upd r i v st = r st := upd_ne _ _ (fun e => hi e.symm)
  exact ⟨by rw [e1]; exact h.b0, by rw [e1]; exact h.b1, chain_upd h.bl hc⟩
theorem HvC.upd (h : HvC base ad V st ch r w) (i : Nat) (v : Value) (hi : i ≠ st) (hc : ∀ p ∈ ch, p.1 ≠ i) : HvC base ad V st ch (Kq.upd r i v) w :=
  h.updL i v hi fun p hp e => absurd e (hc p hp)
theorem HvC.store (h : HvC base ad V st ch r w) (v : Value) (hr : r st = none) (hc : ∀ p ∈ ch, p.1 = st → r p.2 ≠ none) : HvC base ad V st ch (Kq.upd r st v) (w.setCell ad V) :=
  ⟨fun e => (by rw [upd_same] at e; cases e), fun _ => ⟨w, h.b0 hr, rfl⟩, chain_upd h.bl hc⟩
end
end Go.Kq
