/- Chapter 13: THE STATEMENT DemandKeys. -/
import Derived.Test.YtlieijnhaolnhaaGreatRows
import Derived.WalkKit
import Derived.ProofKit
import Derived.OpenShut
import Derived.ShutString
import Derived.ChangeOld
import Derived.Below
import Derived.Test.YtlieijnhaolnhaaGreatXLkeM
import Derived.Test.YtlieijnhaolnhaaGreatXOpzM
namespace Go.Proofs.YtlieijnhaolnhaaGreat
open Go.ChangeShapes Go.WideShapes Go.ChangeAt Go.RowKit Go.Kq

open Go.Deep
section
variable {H : Type} {enc : TypeId × Value → H} {W : World} {base : Nat} {held : Bool}
theorem cPs : Tryz.prog.cellsOf 36 = 1 := by kernel_rfl
theorem rd_unsub {w : World} {A : Option Addr} {n : Nat} {p : Ky → Prop} {xs : List {k : Ky // p k}} (h : Rd (fun k : {k : Ky // p k} => kyC k.1) 1 w A n xs) : Rd kyC 1 w A n (xs.map (·.1)) := by
  refine ⟨by rw [List.length_map]; exact h.1, fun i v hv => ?_⟩
  rw [List.getElem?_map] at hv
  cases hx : xs[i]? with
  | none => rw [hx] at hv; cases hv
  | some x =>
    rw [hx] at hv
    cases hv
    exact h.2 i x hx
theorem open_keysU {a : Option Addr} {len cap : Nat} {d : DataW H} {p : List MemPlace} (h : DataW.Trod enc Tryz.prog W base (fun _ => true) held 56 (.slice a len cap) d p) : ∃ ks, RdK W a len ks := by
  obtain ⟨fuel, hf⟩ := h
  obtain ⟨⟨xs, hx⟩, _⟩ := open_rd (fun k : {k : Ky // Rd pcells 2 W k.A k.n k.ps} => kyC k.1) 1 (by omega) (fun _ => rfl) Tryz.underlying56 cPs (fun fuel cs y h => by
    obtain ⟨A, n, c, rfl⟩ : ∃ A n c, cs = [.slice A n c] := by
      rcases open_slice Tryz.underlying36 h with ⟨hcs, _⟩ | ⟨x, l, c, m, n, D, Pl, hcs, _⟩
      · exact ⟨_, _, _, hcs⟩
      · exact ⟨_, _, _, hcs⟩
    obtain ⟨⟨ps, hps⟩, _⟩ := open_rd pcells 2 (by omega) (fun _ => rfl) Tryz.underlying36 cPp (fun _ _ _ h => pipe_cells h) h
    exact ⟨⟨⟨A, n, c, ps⟩, hps⟩, rfl⟩) (show DataW.trod enc Tryz.prog W base (fun _ => true) held fuel 56 [.slice a len cap] = some (d, p) by simpa [Value.cells] using hf)
  refine ⟨xs.map (·.1), rd_unsub hx, fun k hk => ?_⟩
  obtain ⟨x, _, rfl⟩ := List.mem_map.1 hk
  exact x.2
end
theorem own : ownKnob Tryz.prog.godebug = none := by kernel_rfl
theorem laidOut : laidOutB Tryz.prog = true := by kernel_rfl
set_option maxRecDepth 100000 in
theorem demandKeys_lifted (os : Os) (started : os.Started) (H : Type) (enc : TypeId × Value → H) :
    ReturnsInHanded {} Tryz.checked os 7 .any (Rows.demandKeysSpec.pre6 enc Tryz.prog Tryz.f7 Rows.demandKeysRow.domain false) (Rows.demandKeysSpec.post enc Tryz.prog Tryz.f7 false true false false) := by
  refine returnsInHanded_of_change (C := Tryz.checked) own started (by kernel_rfl) Tryz.func7
    (ChangeSpec.witness6 (enc := enc) (C := Tryz.checked) false ⟨#[], #[.slice none 0 0, .agg #[.slice none 0 0, .int .i64 0], .slice none 0 0], []⟩ 8 (by kernel_rfl) (by kernel_rfl) (by kernel_rfl) (by kernel_rfl)) ?_
  intro W base args ds gs before hval0 hW hcnd _
  have hval : ∀ (j : Nat) t v, Tryz.f7.params[j]? = some t → args[j]? = some v → Value.okWide Tryz.prog W .any base t v := hval0
  have hW' := hW
  obtain ⟨p, q, hA0, hV, rfl, hfz, hnd⟩ := hW
  have hA : DataW.TrodAll enc Tryz.prog W 0 (fun _ => true) true Tryz.f7.params.toList args.toList ds p := hA0
  rw [Tryz.params7] at hA hval
  obtain ⟨v0, vs0, d0, ds0, p0, q0, hargs, rfl, rfl, h0, r0⟩ := trodAll_cons hA
  obtain ⟨v1, vs1, d1, ds1, p1, q1, rfl, rfl, rfl, h1, r1⟩ := trodAll_cons r0
  obtain ⟨v2, vs2, d2, ds2, p2, q2, rfl, rfl, rfl, h2, r2⟩ := trodAll_cons r1
  obtain ⟨rfl, rfl, rfl⟩ := trodAll_nil r2
  obtain rfl : args = #[v0, v1, v2] := by cases args; simp_all
  obtain ⟨rfl, rfl⟩ := trodVars_none hV
  have lt0 : ∀ x ∈ p0, x.block < W.heap.size := by obtain ⟨m, hm⟩ := h0; exact DataW.trod_lt m _ _ _ hm
  have lt1 : ∀ x ∈ p1, x.block < W.heap.size := by obtain ⟨m, hm⟩ := h1; exact DataW.trod_lt m _ _ _ hm
  have lt2 : ∀ x ∈ p2, x.block < W.heap.size := by obtain ⟨m, hm⟩ := h2; exact DataW.trod_lt m _ _ _ hm
  obtain ⟨A0, n0, c0, rfl⟩ := okWide_slice Tryz.underlying32 (hval 0 32 v0 rfl rfl)
  obtain ⟨P1, pn1, cp1, ch1, ps1, rfl, hP1⟩ := open_chests (hval 1 35 v1 rfl rfl) h1
  obtain ⟨A2, n2, c2, rfl⟩ := okWide_slice Tryz.underlying56 (hval 2 56 v2 rfl rfl)
  obtain ⟨xs0, hx0⟩ := open_rows h0
  obtain ⟨ks2, hk2⟩ := open_keysU h2
  clear hA0 hval0
  refine (tkeys_any A0 P1 A2 n0 c0 pn1 cp1 n2 c2 ch1 xs0 ps1 ks2 W hx0 hP1 hk2).mono fun e W' ⟨he, hk⟩ => ?_
  have bel := hk.toBelow
  subst he
  exact ⟨_, rfl, _, _, _, [], _, [], hW', trodAll_mk1 (shut_bool Tryz.underlying4 _), (trodAll_cons_mk (Below.trod laidOut (by kernel_rfl) (of_decide_eq_true (by kernel_rfl)) h0 bel lt0) (trodAll_cons_mk (Below.trod laidOut (by kernel_rfl) (of_decide_eq_true (by kernel_rfl)) h1 bel lt1) (trodAll_cons_mk (Below.trod laidOut (by kernel_rfl) (of_decide_eq_true (by kernel_rfl)) h2 bel lt2) trodAll_mk0))), rfl, bel.frame _, fun h => by cases h⟩
theorem demandKeys_holds : Rows.DemandKeysSaid :=
  OpenClaim.holds_of_wide 7 Tryz.f7 rfl rfl rfl rfl rfl rfl rfl ⟨rfl, rfl, rfl, rfl, rfl⟩ rfl rfl rfl rfl rfl (by kernel_rfl) Tryz.func7 (by kernel_rfl)
    (of_decide_eq_true (by kernel_rfl)) (by unfold Func.isWrapper; rw [if_neg (of_decide_eq_false (by kernel_rfl))]; exact ⟨rfl, rfl⟩)
    (fun os started H enc _ => demandKeys_lifted os started H enc)
#print axioms demandKeys_holds
end Go.Proofs.YtlieijnhaolnhaaGreat
