/- Chapter 13: Sum: the walk. -/
import Derived.Test.YtlieijnhaolnhaaGreatXAdb
namespace Go.Proofs.YtlieijnhaolnhaaGreat
open Go.RowKit Go.Kq

theorem good_of {l : List Rw} {ps : List Int} (h : opnE l ps = 0) : Good l ps := by
  obtain ⟨h0, h1, h2, h3, h4⟩ := opn_zero h
  obtain ⟨g1, g2, g3⟩ := chk_zero h0
  refine ⟨g3, fun x hx => ?_, fun p hp => ?_, h2⟩
  · rw [List.any_eq_false] at g2 h4
    have a := g2 x hx
    have b := h4 x hx
    unfold rowB at a
    simp at a b
    exact ⟨by simpa using a.1.1.2, a.1.2, b⟩
  · rw [List.any_eq_false] at h3
    have := h3 p hp
    simpa using this
/-- The error of Sum. -/
def sumE (l : List Rw) (ps : List Int) (pipes : List Pp) : Int :=
  if opnE l ps = 0 then (if 2000 < pipes.length then 3 else if risB pipes then (if pipes.any (fun p => !(rowOf l p).isSome) then 4 else 0) else 6) else opnE l ps
def sumV (l : List Rw) (ps : List Int) (pipes : List Pp) : List (Int × Int) := if sumE l ps pipes = 0 then addL l ps pipes else []
def SumP (l : List Rw) (ps : List Int) (pipes : List Pp) (w : World) (e : Ending) (w' : World) : Prop :=
  ∃ v, e = .returned (.tuple #[v, .int .i64 (sumE l ps pipes)]) ∧ w'.ownsRow w.heap.size 25 2 v (sumV l ps pipes).length ((sumV l ps pipes).flatMap ivC) ∧ Kp No w w'
theorem sum_nil {l : List Rw} {ps : List Int} {pipes : List Pp} {w w' : World} {z : Int} (h : sumE l ps pipes = z) (hz : z ≠ 0) (hk : Kp No w w') : SumP l ps pipes w (.returned (.tuple #[.slice none 0 0, .int .i64 z])) w' :=
  ⟨.slice none 0 0, by rw [h], by unfold sumV; rw [h, if_neg hz]; exact ⟨rfl, .inl ⟨rfl, rfl⟩⟩, hk⟩
set_option maxHeartbeats 4000000 in
set_option maxRecDepth 100000 in
theorem Sum_any (A P Q : Option Addr) (n m np ca cp cq : Nat) (l : List Rw) (ps : List Int) (pipes : List Pp) (w : World) (hx : Rd rwC 5 w A n l) (hp : RdI .i64 w P m ps) (hq : Rd pcells 2 w Q np pipes) (hm : m ≤ 1000000) :
    Calls Tryz.prog 14 #[.slice A n ca, .slice P m cp, .slice Q np cq] w (SumP l ps pipes w) := by
  have hpl := hp.1
  have hql := hq.1
  by_cases h0 : opnE l ps = 0
  · have hG := good_of h0
    have OK := Lib.hid (open_ok A P n m ca cp l ps w hx hp h0)
    by_cases h1 : 2000 < np
    · have SN := Lib.hid (fun w' hk => sum_nil (l := l) (ps := ps) (pipes := pipes) (w := w) (w' := w') (z := 3) (by unfold sumE; rw [if_pos h0, if_pos (by omega)]) (by omega) hk)
      clear hx hp hq hG h0 hpl hql
      go_enter Tryz.func14, Tryz.ntmps14
      go_wp2_with fail
      refine OK.out.mono ?_
      rintro e w1 ⟨g, rfl, hm1, hg1, k1⟩
      clear OK hm1
      go_wp2_with fail
      exact bodyPost_ret (v := .tuple #[.slice none 0 0, .int .i64 3]) (by simp [results, Tryz.results14, go_sem]) rfl (SN.out _ (k1.tr (Kp.alloc _ _ _)))
    · have RI := Lib.hid (fun w0 hk => rising_any Q np cq pipes w0 (hq.no (w' := w0) hk) (by omega))
      cases h2 : risB pipes
      · rw [h2] at RI
        have SN := Lib.hid (fun w' hk => sum_nil (l := l) (ps := ps) (pipes := pipes) (w := w) (w' := w') (z := 6) (by unfold sumE; rw [if_pos h0, if_neg (by omega), h2]; rfl) (by omega) hk)
        clear hx hp hq hG h0 hpl hql h2
        go_enter Tryz.func14, Tryz.ntmps14
        go_wp2_with fail
        refine OK.out.mono ?_
        rintro e w1 ⟨g, rfl, hm1, hg1, k1⟩
        have K1 := Lib.hid (k1.tr (Kp.alloc No w1 (.cells #[.map (some g), .slice P m cp] 68)))
        clear OK hm1 k1
        go_wp2_with fail
        refine (RI.out _ K1.out).mono ?_
        rintro e w2 ⟨rfl, k2⟩
        go_wp2_with fail
        exact bodyPost_ret (v := .tuple #[.slice none 0 0, .int .i64 6]) (by simp [results, Tryz.results14, go_sem]) rfl (SN.out _ (K1.out.tr k2))
      · rw [h2] at RI
        have CN := Lib.hid (fun g w0 (hk : Kp No w w0) (hm0 : MapAt w0 g ep rwV (bookL l)) => contains_pipe (bv := .agg #[.map (some g), .slice P m cp]) Q np cq pipes (fun p => !(rowOf l p).isSome) w0 (hq.no hk) (by omega) (fun v w' k' => by
          have := unknown_any g m cp P (bookL l) v w' (hm0.kept (k'.toGrownNo none) (by simp))
          rw [get_bookL hG.rise] at this
          exact this))
        cases h3 : pipes.any (fun p => !(rowOf l p).isSome)
        · rw [h3] at CN
          have hall : ∀ p ∈ pipes, ∃ x, rowOf l p = some x := fun p hp => by
            rw [List.any_eq_false] at h3
            have := h3 p hp
            cases hr : rowOf l p with
            | none => rw [hr] at this; simp at this
            | some x => exact ⟨x, rfl⟩
          have hE : sumE l ps pipes = 0 := by unfold sumE; rw [if_pos h0, if_neg (by omega), h2, if_pos rfl, h3]; rfl
          have AD := Lib.hid (fun g w0 (hk : Kp No w w0) (hm0 : MapAt w0 g ep rwV (bookL l)) => add_any_book g m np cp cq P Q l ps pipes w0 hm0 (hp.no hk) (hq.no hk) hG hall (by omega))
          have hlen : (sumV l ps pipes).length = m := by unfold sumV; rw [if_pos hE, addL_len, hpl]
          have SN := Lib.hid (fun v w' (hk : Kp No w w') (ho : w'.ownsRow w.heap.size 25 2 v m ((addL l ps pipes).flatMap ivC)) => show SumP l ps pipes w (.returned (.tuple #[v, .int .i64 0])) w' from ⟨v, by rw [hE], by rw [hlen]; unfold sumV; rw [if_pos hE]; exact ho, hk⟩)
          clear hx hp hq hG h0 hpl hql h2 h3 hall hE hlen
          go_enter Tryz.func14, Tryz.ntmps14
          go_wp2_with fail
          refine OK.out.mono ?_
          rintro e w1 ⟨g, rfl, hm1, hg1, k1⟩
          have K1 := Lib.hid (k1.tr (Kp.alloc No w1 (.cells #[.map (some g), .slice P m cp] 68)))
          have HM := Lib.hid (hm1.alloc (.cells #[.map (some g), .slice P m cp] 68))
          clear OK hm1 k1
          go_wp2_with fail
          refine (RI.out _ K1.out).mono ?_
          rintro e w2 ⟨rfl, k2⟩
          obtain ⟨b0, b1, _, _⟩ := two_cells (k2.heap (at_new (n := w1.heap.size) rfl) id)
          have K2 := Lib.hid (K1.out.tr k2)
          have HM2 := Lib.hid (HM.out.kept (k2.toGrownNo none) (by simp))
          have CN2 := Lib.hid (CN.out g w2 K2.out HM2.out)
          clear k2 RI HM CN
          go_wp2_with fail
          refine CN2.out.mono ?_
          rintro e w3 ⟨rfl, k3⟩
          replace b0 := k3.cell b0 id
          replace b1 := k3.cell b1 id
          have K3 := Lib.hid (K2.out.tr k3)
          have AD3 := Lib.hid (AD.out g w3 K3.out (HM2.out.kept (k3.toGrownNo none) (by simp)))
          clear k3 CN2 AD HM2
          go_wp2_with fail
          refine AD3.out.mono ?_
          rintro e w4 ⟨v, rfl, ho, k4⟩
          have HO := Lib.hid (own_mono (base' := w.heap.size) ho K3.out.size)
          have K4 := Lib.hid (K3.out.tr k4)
          clear ho k4 AD3
          go_wp2_with fail
          exact bodyPost_ret (v := .tuple #[v, .int .i64 0]) (by simp [results, Tryz.results14, go_sem]) rfl (SN.out _ _ K4.out HO.out)
        · rw [h3] at CN
          have SN := Lib.hid (fun w' hk => sum_nil (l := l) (ps := ps) (pipes := pipes) (w := w) (w' := w') (z := 4) (by unfold sumE; rw [if_pos h0, if_neg (by omega), h2, if_pos rfl, h3]; rfl) (by omega) hk)
          clear hx hp hq hG h0 hpl hql h2 h3
          go_enter Tryz.func14, Tryz.ntmps14
          go_wp2_with fail
          refine OK.out.mono ?_
          rintro e w1 ⟨g, rfl, hm1, hg1, k1⟩
          have K1 := Lib.hid (k1.tr (Kp.alloc No w1 (.cells #[.map (some g), .slice P m cp] 68)))
          have HM := Lib.hid (hm1.alloc (.cells #[.map (some g), .slice P m cp] 68))
          clear OK hm1 k1
          go_wp2_with fail
          refine (RI.out _ K1.out).mono ?_
          rintro e w2 ⟨rfl, k2⟩
          obtain ⟨b0, b1, _, _⟩ := two_cells (k2.heap (at_new (n := w1.heap.size) rfl) id)
          have K2 := Lib.hid (K1.out.tr k2)
          have HM2 := Lib.hid (HM.out.kept (k2.toGrownNo none) (by simp))
          have CN2 := Lib.hid (CN.out g w2 K2.out HM2.out)
          clear k2 RI HM CN
          go_wp2_with fail
          refine CN2.out.mono ?_
          rintro e w3 ⟨rfl, k3⟩
          go_wp2_with fail
          exact bodyPost_ret (v := .tuple #[.slice none 0 0, .int .i64 4]) (by simp [results, Tryz.results14, go_sem]) rfl (SN.out _ (K2.out.tr k3))
  · have OB := Lib.hid (open_bad A P n m ca cp l ps w hx hp hm h0)
    have hE : sumE l ps pipes = opnE l ps := by unfold sumE; rw [if_neg h0]
    have hz : (opnE l ps == 0) = false := by rw [beq_eq_false_iff_ne]; exact h0
    have SN := Lib.hid (fun w' hk => sum_nil (l := l) (ps := ps) (pipes := pipes) (w := w) (w' := w') hE h0 hk)
    generalize opnE l ps = z at *
    clear hx hp hq hpl hql hE h0
    unfold bk0 at OB
    go_enter Tryz.func14, Tryz.ntmps14
    go_wp2_with fail
    refine OB.out.mono ?_
    rintro e w1 ⟨rfl, k1⟩
    clear OB
    go_wp2_with fail
    exact bodyPost_ret (v := .tuple #[.slice none 0 0, .int .i64 z]) (by simp [results, Tryz.results14, go_sem]) rfl (SN.out _ (k1.tr (Kp.alloc _ _ _)))
end Go.Proofs.YtlieijnhaolnhaaGreat
