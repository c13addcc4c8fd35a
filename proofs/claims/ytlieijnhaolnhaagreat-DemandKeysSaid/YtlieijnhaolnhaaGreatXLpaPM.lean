/- Chapter 13: Sum: the walk. · Chapter 13: law 6 (DemandParts): plain laws. -/
import Derived.Test.YtlieijnhaolnhaaGreatXAdb
namespace Go.Proofs.YtlieijnhaolnhaaGreat
open Go.RowKit Go.Kq

theorem good_of {l : List Rw} {ps : List Int} (h : opnE l ps = 0) : Good l ps := by
  obtain ⟨h0, h1, h2, h3, h4⟩ := opn_zero h
  obtain ⟨g1, g2, g3⟩ := chk_zero h0
  refine ⟨g3, fun x hx => ?_, fun p hp => ?_, h2⟩
  · rw [List.any_eq_false] at g2 h4
    have a := g2 x hx
    have b := h4 x hx
    unfold rowB at a
    simp at a b
    exact ⟨by simpa using a.1.1.2, a.1.2, b⟩
  · rw [List.any_eq_false] at h3
    have := h3 p hp
    simpa using this
/-- The error of Sum. -/
def sumE (l : List Rw) (ps : List Int) (pipes : List Pp) : Int :=
  if opnE l ps = 0 then (if 2000 < pipes.length then 3 else if risB pipes then (if pipes.any (fun p => !(rowOf l p).isSome) then 4 else 0) else 6) else opnE l ps
def sumV (l : List Rw) (ps : List Int) (pipes : List Pp) : List (Int × Int) := if sumE l ps pipes = 0 then addL l ps pipes else []
def SumP (l : List Rw) (ps : List Int) (pipes : List Pp) (w : World) (e : Ending) (w' : World) : Prop :=
  ∃ v, e = .returned (.tuple #[v, .int .i64 (sumE l ps pipes)]) ∧ w'.ownsRow w.heap.size 25 2 v (sumV l ps pipes).length ((sumV l ps pipes).flatMap ivC) ∧ Kp No w w'
theorem sum_nil {l : List Rw} {ps : List Int} {pipes : List Pp} {w w' : World} {z : Int} (h : sumE l ps pipes = z) (hz : z ≠ 0) (hk : Kp No w w') : SumP l ps pipes w (.returned (.tuple #[.slice none 0 0, .int .i64 z])) w' :=
  ⟨.slice none 0 0, by rw [h], by unfold sumV; rw [h, if_neg hz]; exact ⟨rfl, .inl ⟨rfl, rfl⟩⟩, hk⟩
set_option maxHeartbeats 4000000 in
set_option maxRecDepth 100000 in
theorem Sum_any (A P Q : Option Addr) (n m np ca cp cq : Nat) (l : List Rw) (ps : List Int) (pipes : List Pp) (w : World) (hx : Rd rwC 5 w A n l) (hp : RdI .i64 w P m ps) (hq : Rd pcells 2 w Q np pipes) (hm : m ≤ 1000000) :
    Calls Tryz.prog 14 #[.slice A n ca, .slice P m cp, .slice Q np cq] w (SumP l ps pipes w) := by
  have hpl := hp.1
  have hql := hq.1
  by_cases h0 : opnE l ps = 0
  · have hG := good_of h0
    have OK := Lib.hid (open_ok A P n m ca cp l ps w hx hp h0)
    by_cases h1 : 2000 < np
    · have SN := Lib.hid (fun w' hk => sum_nil (l := l) (ps := ps) (pipes := pipes) (w := w) (w' := w') (z := 3) (by unfold sumE; rw [if_pos h0, if_pos (by omega)]) (by omega) hk)
      clear hx hp hq hG h0 hpl hql
      go_enter Tryz.func14, Tryz.ntmps14
      go_wp2_with fail
      refine OK.out.mono ?_
      rintro e w1 ⟨g, rfl, hm1, hg1, k1⟩
      clear OK hm1
      go_wp2_with fail
      exact bodyPost_ret (v := .tuple #[.slice none 0 0, .int .i64 3]) (by simp [results, Tryz.results14, go_sem]) rfl (SN.out _ (k1.tr (Kp.alloc _ _ _)))
    · have RI := Lib.hid (fun w0 hk => rising_any Q np cq pipes w0 (hq.no (w' := w0) hk) (by omega))
      cases h2 : risB pipes
      · rw [h2] at RI
        have SN := Lib.hid (fun w' hk => sum_nil (l := l) (ps := ps) (pipes := pipes) (w := w) (w' := w') (z := 6) (by unfold sumE; rw [if_pos h0, if_neg (by omega), h2]; rfl) (by omega) hk)
        clear hx hp hq hG h0 hpl hql h2
        go_enter Tryz.func14, Tryz.ntmps14
        go_wp2_with fail
        refine OK.out.mono ?_
        rintro e w1 ⟨g, rfl, hm1, hg1, k1⟩
        have K1 := Lib.hid (k1.tr (Kp.alloc No w1 (.cells #[.map (some g), .slice P m cp] 68)))
        clear OK hm1 k1
        go_wp2_with fail
        refine (RI.out _ K1.out).mono ?_
        rintro e w2 ⟨rfl, k2⟩
        go_wp2_with fail
        exact bodyPost_ret (v := .tuple #[.slice none 0 0, .int .i64 6]) (by simp [results, Tryz.results14, go_sem]) rfl (SN.out _ (K1.out.tr k2))
      · rw [h2] at RI
        have CN := Lib.hid (fun g w0 (hk : Kp No w w0) (hm0 : MapAt w0 g ep rwV (bookL l)) => contains_pipe (bv := .agg #[.map (some g), .slice P m cp]) Q np cq pipes (fun p => !(rowOf l p).isSome) w0 (hq.no hk) (by omega) (fun v w' k' => by
          have := unknown_any g m cp P (bookL l) v w' (hm0.kept (k'.toGrownNo none) (by simp))
          rw [get_bookL hG.rise] at this
          exact this))
        cases h3 : pipes.any (fun p => !(rowOf l p).isSome)
        · rw [h3] at CN
          have hall : ∀ p ∈ pipes, ∃ x, rowOf l p = some x := fun p hp => by
            rw [List.any_eq_false] at h3
            have := h3 p hp
            cases hr : rowOf l p with
            | none => rw [hr] at this; simp at this
            | some x => exact ⟨x, rfl⟩
          have hE : sumE l ps pipes = 0 := by unfold sumE; rw [if_pos h0, if_neg (by omega), h2, if_pos rfl, h3]; rfl
          have AD := Lib.hid (fun g w0 (hk : Kp No w w0) (hm0 : MapAt w0 g ep rwV (bookL l)) => add_any_book g m np cp cq P Q l ps pipes w0 hm0 (hp.no hk) (hq.no hk) hG hall (by omega))
          have hlen : (sumV l ps pipes).length = m := by unfold sumV; rw [if_pos hE, addL_len, hpl]
          have SN := Lib.hid (fun v w' (hk : Kp No w w') (ho : w'.ownsRow w.heap.size 25 2 v m ((addL l ps pipes).flatMap ivC)) => show SumP l ps pipes w (.returned (.tuple #[v, .int .i64 0])) w' from ⟨v, by rw [hE], by rw [hlen]; unfold sumV; rw [if_pos hE]; exact ho, hk⟩)
          clear hx hp hq hG h0 hpl hql h2 h3 hall hE hlen
          go_enter Tryz.func14, Tryz.ntmps14
          go_wp2_with fail
          refine OK.out.mono ?_
          rintro e w1 ⟨g, rfl, hm1, hg1, k1⟩
          have K1 := Lib.hid (k1.tr (Kp.alloc No w1 (.cells #[.map (some g), .slice P m cp] 68)))
          have HM := Lib.hid (hm1.alloc (.cells #[.map (some g), .slice P m cp] 68))
          clear OK hm1 k1
          go_wp2_with fail
          refine (RI.out _ K1.out).mono ?_
          rintro e w2 ⟨rfl, k2⟩
          obtain ⟨b0, b1, _, _⟩ := two_cells (k2.heap (at_new (n := w1.heap.size) rfl) id)
          have K2 := Lib.hid (K1.out.tr k2)
          have HM2 := Lib.hid (HM.out.kept (k2.toGrownNo none) (by simp))
          have CN2 := Lib.hid (CN.out g w2 K2.out HM2.out)
          clear k2 RI HM CN
          go_wp2_with fail
          refine CN2.out.mono ?_
          rintro e w3 ⟨rfl, k3⟩
          replace b0 := k3.cell b0 id
          replace b1 := k3.cell b1 id
          have K3 := Lib.hid (K2.out.tr k3)
          have AD3 := Lib.hid (AD.out g w3 K3.out (HM2.out.kept (k3.toGrownNo none) (by simp)))
          clear k3 CN2 AD HM2
          go_wp2_with fail
          refine AD3.out.mono ?_
          rintro e w4 ⟨v, rfl, ho, k4⟩
          have HO := Lib.hid (own_mono (base' := w.heap.size) ho K3.out.size)
          have K4 := Lib.hid (K3.out.tr k4)
          clear ho k4 AD3
          go_wp2_with fail
          exact bodyPost_ret (v := .tuple #[v, .int .i64 0]) (by simp [results, Tryz.results14, go_sem]) rfl (SN.out _ _ K4.out HO.out)
        · rw [h3] at CN
          have SN := Lib.hid (fun w' hk => sum_nil (l := l) (ps := ps) (pipes := pipes) (w := w) (w' := w') (z := 4) (by unfold sumE; rw [if_pos h0, if_neg (by omega), h2, if_pos rfl, h3]; rfl) (by omega) hk)
          clear hx hp hq hG h0 hpl hql h2 h3
          go_enter Tryz.func14, Tryz.ntmps14
          go_wp2_with fail
          refine OK.out.mono ?_
          rintro e w1 ⟨g, rfl, hm1, hg1, k1⟩
          have K1 := Lib.hid (k1.tr (Kp.alloc No w1 (.cells #[.map (some g), .slice P m cp] 68)))
          have HM := Lib.hid (hm1.alloc (.cells #[.map (some g), .slice P m cp] 68))
          clear OK hm1 k1
          go_wp2_with fail
          refine (RI.out _ K1.out).mono ?_
          rintro e w2 ⟨rfl, k2⟩
          obtain ⟨b0, b1, _, _⟩ := two_cells (k2.heap (at_new (n := w1.heap.size) rfl) id)
          have K2 := Lib.hid (K1.out.tr k2)
          have HM2 := Lib.hid (HM.out.kept (k2.toGrownNo none) (by simp))
          have CN2 := Lib.hid (CN.out g w2 K2.out HM2.out)
          clear k2 RI HM CN
          go_wp2_with fail
          refine CN2.out.mono ?_
          rintro e w3 ⟨rfl, k3⟩
          go_wp2_with fail
          exact bodyPost_ret (v := .tuple #[.slice none 0 0, .int .i64 4]) (by simp [results, Tryz.results14, go_sem]) rfl (SN.out _ (K2.out.tr k3))
  · have OB := Lib.hid (open_bad A P n m ca cp l ps w hx hp hm h0)
    have hE : sumE l ps pipes = opnE l ps := by unfold sumE; rw [if_neg h0]
    have hz : (opnE l ps == 0) = false := by rw [beq_eq_false_iff_ne]; exact h0
    have SN := Lib.hid (fun w' hk => sum_nil (l := l) (ps := ps) (pipes := pipes) (w := w) (w' := w') hE h0 hk)
    generalize opnE l ps = z at *
    clear hx hp hq hpl hql hE h0
    unfold bk0 at OB
    go_enter Tryz.func14, Tryz.ntmps14
    go_wp2_with fail
    refine OB.out.mono ?_
    rintro e w1 ⟨rfl, k1⟩
    clear OB
    go_wp2_with fail
    exact bodyPost_ret (v := .tuple #[.slice none 0 0, .int .i64 z]) (by simp [results, Tryz.results14, go_sem]) rfl (SN.out _ (k1.tr (Kp.alloc _ _ _)))
end Go.Proofs.YtlieijnhaolnhaaGreat

namespace Go.Proofs.YtlieijnhaolnhaaGreat
open Go.RowKit Go.Kq

def pickN (b : Bool) (l : List Rw) (ms : List Bool) (k : Nat) : List Pp := (((l.zip ms).take k).filter fun x => x.2 == b).map fun x => x.1.pp
theorem pick_snoc (b : Bool) (l : List Rw) (ms : List Bool) (k : Nat) (x : Rw) (m : Bool) (hx : l[k]? = some x) (hm : ms[k]? = some m) : pickN b l ms (k + 1) = if m == b then pickN b l ms k ++ [x.pp] else pickN b l ms k := by
  unfold pickN
  have h : (l.zip ms)[k]? = some (x, m) := by
    rw [List.getElem?_zip_eq_some]
    exact ⟨hx, hm⟩
  rw [List.take_add_one, h, List.filter_append, List.map_append]
  by_cases hb : m == b
  · rw [if_pos hb]
    simp [hb]
  · rw [if_neg hb]
    simp [hb]
theorem pick_len (b : Bool) (l : List Rw) (ms : List Bool) (k : Nat) : (pickN b l ms k).length ≤ k := by
  unfold pickN
  rw [List.length_map]
  refine Nat.le_trans (List.length_filter_le _ _) ?_
  rw [List.length_take]
  omega
theorem fst_zip {α β : Type} : ∀ (l : List α) (m : List β), ((l.zip m).map Prod.fst).Sublist l
  | [], _ => by simp
  | a :: l, [] => by simp
  | a :: l, b :: m => by simpa using fst_zip l m
theorem pick_sub (b : Bool) (l : List Rw) (ms : List Bool) (k : Nat) : (pickN b l ms k).Sublist (l.map Rw.pp) := by
  unfold pickN
  have h1 : (((l.zip ms).take k).filter fun x => x.2 == b).Sublist (l.zip ms) := List.filter_sublist.trans (List.take_sublist _ _)
  have h2 : ((((l.zip ms).take k).filter fun x => x.2 == b).map fun x => x.1.pp).Sublist ((l.zip ms).map fun x => x.1.pp) := h1.map _
  have h3 : (l.zip ms).map (fun x => x.1.pp) = ((l.zip ms).map Prod.fst).map Rw.pp := by rw [List.map_map]; rfl
  rw [h3] at h2
  refine h2.trans (List.Sublist.map _ ?_)
  exact fst_zip l ms
theorem ris_of_pair : ∀ (l : List Pp), (l.Pairwise fun a b => pltB a b = true) → risB l = true := fun l h =>
  risB_yes l fun k a b ha hb => by
    have hk := (List.getElem?_eq_some_iff.1 ha)
    have hk2 := (List.getElem?_eq_some_iff.1 hb)
    obtain ⟨h1, e1⟩ := hk
    obtain ⟨h2, e2⟩ := hk2
    have := List.pairwise_iff_getElem.1 h k (k + 1) h1 h2 (by omega)
    rwa [e1, e2] at this
theorem ris_sub {l m : List Pp} (h : risB l = true) (hs : m.Sublist l) : risB m = true := ris_of_pair m ((ris_pair l h).sublist hs)
theorem sumE_sub {l : List Rw} {ps : List Int} {pipes : List Pp} (hs : pipes.Sublist (l.map Rw.pp)) (h40 : pipes.length ≤ 2000) : sumE l ps pipes = opnE l ps := by
  unfold sumE
  by_cases h0 : opnE l ps = 0
  · have hG := good_of h0
    rw [if_pos h0, if_neg (by omega), ris_sub hG.rise hs, if_pos rfl, h0, if_neg]
    intro h
    obtain ⟨p, hp, hn⟩ := List.any_eq_true.1 h
    obtain ⟨x, hx, rfl⟩ := List.mem_map.1 (hs.subset hp)
    rw [rowOf_mem hG.rise hx] at hn
    simp at hn
  · rw [if_neg h0]
theorem getD_set {α : Type} (l : List α) (c j : Nat) (v d : α) (hc : c < l.length) : (l.set c v).getD j d = if c = j then v else l.getD j d := by
  rw [List.getD_eq_getElem?_getD, List.getD_eq_getElem?_getD, List.getElem?_set]
  by_cases h : c = j
  · subst h
    rw [if_pos rfl, if_pos rfl, if_pos hc]
    rfl
  · rw [if_neg h, if_neg h]
theorem addS_at {l : List Rw} {ps : List Int} (hG : Good l ps) {x : Rw} (hx : x ∈ l) (out : List (Int × Int)) (hl : out.length = ps.length) (j : Nat) :
    (addS l ps out x.pp).getD j (0, 0) = if x.c.toNat = j then ((out.getD j (0, 0)).1 + tlo x.b x.f (ps.getD x.c.toNat 0), (out.getD j (0, 0)).2 + thi x.b x.f (ps.getD x.c.toNat 0)) else out.getD j (0, 0) := by
  obtain ⟨_, h1, h2⟩ := hG.rows x hx
  unfold addS
  rw [rowOf_mem hG.rise hx]
  simp only
  rw [getD_set _ _ _ _ _ (by omega)]
  by_cases h : x.c.toNat = j
  · rw [if_pos h, if_pos h, h]
  · rw [if_neg h, if_neg h]
theorem addL_le {l : List Rw} {ps : List Int} (hG : Good l ps) (pipes : List Pp) : ∀ y ∈ addL l ps pipes, y.1 ≤ y.2 := by
  suffices ∀ (pipes : List Pp) (out : List (Int × Int)), (∀ y ∈ out, y.1 ≤ y.2) → ∀ y ∈ pipes.foldl (addS l ps) out, y.1 ≤ y.2 by
    exact this pipes _ (fun y hy => by rw [(List.mem_replicate.1 hy).2]; simp)
  intro pipes
  induction pipes with
  | nil => intro out h; exact h
  | cons p pipes ih =>
    intro out h
    rw [List.foldl_cons]
    refine ih _ fun y hy => ?_
    unfold addS at hy
    cases hr : rowOf l p with
    | none => rw [hr] at hy; exact h y hy
    | some x =>
      rw [hr] at hy
      obtain ⟨h1, _⟩ := take_bd hG (rowOf_some hr).1
      rcases List.mem_or_eq_of_mem_set hy with hy | hy
      · exact h y hy
      · subst hy
        have hg : (out.getD x.c.toNat (0, 0)).1 ≤ (out.getD x.c.toNat (0, 0)).2 := by
          rw [List.getD_eq_getElem?_getD]
          cases hq : out[x.c.toNat]? with
          | none => simp
          | some z => exact h z (List.mem_of_getElem? hq)
        simp only
        omega
theorem parts_sum {l : List Rw} {ps : List Int} {ms : List Bool} (hG : Good l ps) (hm : l.length ≤ ms.length) : ∀ (k : Nat), k ≤ l.length → ∀ j : Nat,
    (addL l ps ((l.map Rw.pp).take k)).getD j (0, 0) = (((addL l ps (pickN true l ms k)).getD j (0, 0)).1 + ((addL l ps (pickN false l ms k)).getD j (0, 0)).1, ((addL l ps (pickN true l ms k)).getD j (0, 0)).2 + ((addL l ps (pickN false l ms k)).getD j (0, 0)).2)
  | 0, _, j => by
    have h0 : (addL l ps []).getD j (0, 0) = (0, 0) := by
      unfold addL
      rw [List.foldl_nil, List.getD_eq_getElem?_getD, List.getElem?_replicate]
      split <;> rfl
    have e1 : pickN true l ms 0 = [] := by simp [pickN]
    have e2 : pickN false l ms 0 = [] := by simp [pickN]
    rw [e1, e2, List.take_zero, h0]
    rfl
  | k + 1, hk, j => by
    have ih := parts_sum hG hm k (by omega) j
    obtain ⟨x, hx⟩ : ∃ x, l[k]? = some x := ⟨_, List.getElem?_eq_getElem (by omega)⟩
    obtain ⟨m, hmk⟩ : ∃ m, ms[k]? = some m := ⟨_, List.getElem?_eq_getElem (by omega)⟩
    have hxm := List.mem_of_getElem? hx
    have e0 : (l.map Rw.pp).take (k + 1) = (l.map Rw.pp).take k ++ [x.pp] := by rw [List.take_add_one, List.getElem?_map, hx]; rfl
    have e1 := pick_snoc true l ms k x m hx hmk
    have e2 := pick_snoc false l ms k x m hx hmk
    rw [e0, addL_snoc, addS_at hG hxm _ (addL_len _ _ _)]
    cases m
    · rw [if_neg (by decide)] at e1
      rw [if_pos (by decide)] at e2
      rw [e1, e2, addL_snoc, addS_at hG hxm _ (addL_len _ _ _)]
      by_cases h : x.c.toNat = j
      · rw [if_pos h, if_pos h, ih]
        simp only [Prod.mk.injEq]
        omega
      · rw [if_neg h, if_neg h, ih]
    · rw [if_pos (by decide)] at e1
      rw [if_neg (by decide)] at e2
      rw [e1, e2, addL_snoc, addS_at hG hxm _ (addL_len _ _ _)]
      by_cases h : x.c.toNat = j
      · rw [if_pos h, if_pos h, ih]
        simp only [Prod.mk.injEq]
        omega
      · rw [if_neg h, if_neg h, ih]
/-- What the reference's Add makes of two parts. -/
theorem parts_add {l : List Rw} {ps : List Int} {ms : List Bool} (hG : Good l ps) (hm : l.length ≤ ms.length) (h40 : l.length ≤ 40) (j : Nat) (x y z : Int × Int) (hx : (addL l ps (l.map Rw.pp))[j]? = some x) (hy : (addL l ps (pickN true l ms l.length))[j]? = some y) (hz : (addL l ps (pickN false l ms l.length))[j]? = some z) :
    addE y z = (x.1, x.2, 0) := by
  have h := parts_sum hG hm l.length (Nat.le_refl _) j
  rw [List.take_of_length_le (by simp), List.getD_eq_getElem?_getD, List.getD_eq_getElem?_getD, List.getD_eq_getElem?_getD, hx, hy, hz] at h
  simp only [Option.getD_some] at h
  have b1 := addL_bd hG _ y (List.mem_of_getElem? hy)
  have b2 := addL_bd hG _ z (List.mem_of_getElem? hz)
  have l1 := addL_le hG _ y (List.mem_of_getElem? hy)
  have l2 := addL_le hG _ z (List.mem_of_getElem? hz)
  have g1 := pick_len true l ms l.length
  have g2 := pick_len false l ms l.length
  have hf : ∀ q : Int, -4611686018427387904 ≤ q → q ≤ 4611686018427387904 → fits q = true := fun q h1 h2 => by
    unfold fits M62
    simp
    omega
  unfold addE
  have hck : ckE [y, z] = 0 := by
    unfold ckE
    rw [if_pos, if_pos]
    · intro u hu
      simp at hu
      rcases hu with rfl | rfl <;> assumption
    · intro u hu
      simp at hu
      rcases hu with rfl | rfl
      · exact ⟨hf _ (by omega) (by omega), hf _ (by omega) (by omega)⟩
      · exact ⟨hf _ (by omega) (by omega), hf _ (by omega) (by omega)⟩
  rw [if_pos hck]
  unfold fitE
  rw [hf _ (by omega) (by omega), hf _ (by omega) (by omega), h]
  rfl
end Go.Proofs.YtlieijnhaolnhaaGreat
