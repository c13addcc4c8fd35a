/- Chapter 13: THE STATEMENT DemandTrue. -/
import Derived.Test.YtlieijnhaolnhaaRows
import Derived.Test.YtlieijnhaolnhaaLtr
import Derived.Deep.Slices
import Derived.Deep.Fields
import Derived.ChangeSame
import Derived.WalkKit
import Derived.ProofKit
import Derived.OpenShut
import Derived.ShutString
import Derived.ChangeOld
import Derived.Below
namespace Go.Proofs.Ytlieijnhaolnhaa
open Go.ChangeShapes Go.WideShapes Go.ChangeAt Go.RowKit Go.Kq

open Go.Deep
section
variable {H : Type} {enc : TypeId × Value → H} {W : World} {base : Nat} {spare : Nat → Bool} {held : Bool}
theorem one_int2 {fuel : Nat} {v : Value} {y : DataW H × List MemPlace} (h : DataW.trod enc Try.prog W base spare held fuel 2 [v] = some y) : ∃ x : Int, v = .int .i64 x := by
  obtain ⟨x, h1, _⟩ := DataW.trod_int Try.underlying2 h
  simp at h1
  exact ⟨x, h1⟩
theorem fld {t : TypeId} {fs : Array Field} {fuel : Nat} {cs : List Value} {y : DataW H × List MemPlace} (ht : Try.prog.underlying t = some (.struct fs)) (h : DataW.trod enc Try.prog W base spare held fuel t cs = some y) (i : Nat) (f : Field) (o k : Nat) (e : TypeId) (hf : fs[i]? = some f) (ho : f.offset = o) (he : f.type = e) (hk : Try.prog.cellsOf e = k) :
    ∃ n y, DataW.trod enc Try.prog W base spare held n e ((cs.drop o).take k) = some y := by
  obtain ⟨xs, n, _, _, _, hl, hx⟩ := DataW.trod_struct ht h
  have g := hx i f hf
  have hi := (Array.getElem?_eq_some_iff.1 hf).1
  rw [ho, he, hk, List.getElem?_eq_getElem (by omega)] at g
  exact ⟨n, _, g⟩
theorem cL : Try.prog.cellsOf 2 = 1 := by kernel_rfl
theorem cToe : Try.prog.cellsOf 23 = 2 := by kernel_rfl
set_option maxRecDepth 100000 in
theorem toe_cells {cs : List Value} {n : Nat} {y : DataW H × List MemPlace} (h : DataW.trod enc Try.prog W base spare held n 23 cs = some y) : ∃ b f : Int, cs = [.int .i64 b, .int .i64 f] := by
  obtain ⟨_, _, _, _, hlen, _, _⟩ := DataW.trod_struct Try.underlying23 h
  rw [cToe] at hlen
  match cs, hlen with
  | [a0, a1], _ =>
    obtain ⟨n0, y0, h0⟩ := fld Try.underlying23 h 0 _ 0 1 2 rfl rfl rfl cL
    obtain ⟨n1, y1, h1⟩ := fld Try.underlying23 h 1 _ 1 1 2 rfl rfl rfl cL
    obtain ⟨b, rfl⟩ := one_int2 (by simpa using h0)
    obtain ⟨f, rfl⟩ := one_int2 (by simpa using h1)
    exact ⟨b, f, rfl⟩
set_option maxRecDepth 100000 in
theorem open_toe {v : Value} {d : DataW H} {p : List MemPlace} {r : Reach} {b0 : Nat} (hv : Value.okWide Try.prog W r b0 23 v) (h : DataW.Trod enc Try.prog W base spare held 23 v d p) : ∃ b f : Int, v = toeV b f := by
  obtain ⟨cs, rfl, hsz⟩ := okWide_struct Try.underlying23 hv
  obtain ⟨fuel, hf⟩ := h
  simp only [Value.cells] at hf
  obtain ⟨b, f, hc⟩ := toe_cells hf
  obtain ⟨l⟩ := cs
  simp only at hc
  subst hc
  exact ⟨b, f, rfl⟩
end
theorem own : ownKnob Try.prog.godebug = none := by kernel_rfl
theorem laidOut : laidOutB Try.prog = true := by kernel_rfl
set_option maxRecDepth 100000 in
theorem demandTrue_lifted (os : Os) (started : os.Started) (H : Type) (enc : TypeId × Value → H) :
    ReturnsInHanded {} Try.checked os 3 .any (Rows.demandTrueSpec.pre6 enc Try.prog Try.f3 Rows.demandTrueRow.domain false) (Rows.demandTrueSpec.post enc Try.prog Try.f3 false true false false) := by
  refine returnsInHanded_of_change (C := Try.checked) own started (by kernel_rfl) Try.func3
    (ChangeSpec.witness6 (enc := enc) (C := Try.checked) false ⟨#[], #[.agg #[.int .i64 0, .int .i64 0], .int .i64 0], []⟩ 8 (by kernel_rfl) (by kernel_rfl) (by kernel_rfl) (by kernel_rfl)) ?_
  intro W base args ds gs before hval0 hW hcnd _
  have hval : ∀ (j : Nat) t v, Try.f3.params[j]? = some t → args[j]? = some v → Value.okWide Try.prog W .any base t v := hval0
  have hW' := hW
  obtain ⟨p, q, hA0, hV, rfl, hfz, hnd⟩ := hW
  have hA : DataW.TrodAll enc Try.prog W 0 (fun _ => true) true Try.f3.params.toList args.toList ds p := hA0
  rw [Try.params3] at hA hval
  obtain ⟨v0, vs0, d0, ds0, p0, q0, hargs, rfl, rfl, h0, r0⟩ := trodAll_cons hA
  obtain ⟨v1, vs1, d1, ds1, p1, q1, rfl, rfl, rfl, h1, r1⟩ := trodAll_cons r0
  obtain ⟨rfl, rfl, rfl⟩ := trodAll_nil r1
  obtain rfl : args = #[v0, v1] := by cases args; simp_all
  obtain ⟨rfl, rfl⟩ := trodVars_none hV
  have lt0 : ∀ x ∈ p0, x.block < W.heap.size := by obtain ⟨m, hm⟩ := h0; exact DataW.trod_lt m _ _ _ hm
  have lt1 : ∀ x ∈ p1, x.block < W.heap.size := by obtain ⟨m, hm⟩ := h1; exact DataW.trod_lt m _ _ _ hm
  obtain ⟨b0, f0, rfl⟩ := open_toe (hval 0 23 v0 rfl rfl) h0
  obtain ⟨p1, rfl⟩ := okWide_int Try.underlying2 (hval 1 2 v1 rfl rfl)
  clear hA0 hval0
  refine (ttrue_any b0 f0 p1 W).mono fun e W' ⟨he, hk⟩ => ?_
  have bel := hk.toBelow
  subst he
  exact ⟨_, rfl, _, _, _, [], _, [], hW', trodAll_mk1 (shut_bool Try.underlying4 _), (trodAll_cons_mk (Below.trod laidOut (by kernel_rfl) (of_decide_eq_true (by kernel_rfl)) h0 bel lt0) (trodAll_cons_mk (Below.trod laidOut (by kernel_rfl) (of_decide_eq_true (by kernel_rfl)) h1 bel lt1) trodAll_mk0)), rfl, bel.frame _, fun h => by cases h⟩
theorem demandTrue_holds : Rows.DemandTrueSaid :=
  OpenClaim.holds_of_wide 3 Try.f3 rfl rfl rfl rfl rfl rfl rfl ⟨rfl, rfl, rfl, rfl, rfl⟩ rfl rfl rfl rfl rfl (by kernel_rfl) Try.func3 (by kernel_rfl)
    (of_decide_eq_true (by kernel_rfl)) (by unfold Func.isWrapper; rw [if_neg (of_decide_eq_false (by kernel_rfl))]; exact ⟨rfl, rfl⟩)
    (fun os started H enc _ => demandTrue_lifted os started H enc)
#print axioms demandTrue_holds
end Go.Proofs.Ytlieijnhaolnhaa
