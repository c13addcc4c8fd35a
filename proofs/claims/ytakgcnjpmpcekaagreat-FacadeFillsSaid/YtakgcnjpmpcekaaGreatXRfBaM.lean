/- Chapter 24: front and awake: all the program's functions at the document's examples. · Chapter 24: the document's gap. -/
import Derived.Test.YtakgcnjpmpcekaaGreatXPnEM
import Derived.Test.YtakgcnjpmpcekaaGreatXAnB
import Derived.Test.YtakgcnjpmpcekaaGreatXFeAM
import Derived.Test.YtakgcnjpmpcekaaGreatXGpAM
import Derived.Test.YtakgcnjpmpcekaaGreatXGpB
namespace Go.Proofs.YtakgcnjpmpcekaaGreat
open Go.RowKit Go.Kq

theorem rd_lit {α : Type} {f : α → List Value} {s : Nat} (hf : ∀ x, (f x).length = s) {w : World} {g : Nat} {t : TypeId} {vs : List α} (h : w.heap[g]? = some (.cells (vs.flatMap f).toArray t (0, 0))) : Rd f s w (some ⟨g, 0, none⟩) vs.length vs :=
  ⟨rfl, fun i v hv => ⟨g, 0, rfl, (Array.getElem?_eq_some_iff.1 h).1, fun j u hj => by
    rw [cell_of_row _ _ _ _ _ _ h, Nat.zero_add]
    have := flat_at hf vs i v j u hv hj
    simpa using this⟩⟩
theorem rdi_lit {k : IntKind} {w : World} {g : Nat} {t : TypeId} {vs : List Int} (h : w.heap[g]? = some (.cells (vs.map (Value.int k)).toArray t (0, 0))) : RdI k w (some ⟨g, 0, none⟩) vs.length vs :=
  ⟨rfl, fun i v hv => ⟨g, 0, rfl, (Array.getElem?_eq_some_iff.1 h).1, by
    rw [cell_of_row _ _ _ _ _ _ h, Nat.zero_add]
    simp [hv]⟩⟩
theorem fcC_len (x : Fc) : (Fc.cells x).length = 2 := rfl
theorem RwM.rd {base g L : Nat} {w : World} {Ls : List (List Int)} (h : RwM base w g L Ls) : RdL base w (some ⟨g, 0, none⟩) L Ls := by
  refine ⟨h.hl, fun i S hS => ?_⟩
  obtain ⟨v, hv, _, ho, hi, hg⟩ := h.cell hS
  obtain ⟨A, c, rfl, _, _, hf⟩ := own_form ho
  refine ⟨g, 0, A, S.length, c, rfl, ⟨h.hg, hg⟩, by rw [Nat.zero_add]; exact hv, own_nilc ho, own_rdi ho rfl, fun b o e => ?_⟩
  subst e
  refine (own_ge ho (g := b) ?_).1
  · rcases ho.2 with ⟨hv, _⟩ | ⟨g2, _, _, hv, _⟩
    · cases hv
    · injection hv with hv
      injection hv with hv
      injection hv with e1 e2
      subst e1 e2
      rfl
/-- A table that was laid, of three lists. -/
theorem rdl_lit3 {w : World} {g a b c : Nat} {x y z : List Int} {t1 t2 t3 t : TypeId} {gm : Nat} (hx : w.heap[a]? = some (.cells (x.map (Value.int .i64)).toArray t1 (0, 0))) (hy : w.heap[b]? = some (.cells (y.map (Value.int .i64)).toArray t2 (0, 0))) (hz : w.heap[c]? = some (.cells (z.map (Value.int .i64)).toArray t3 (0, 0)))
    (h : w.heap[g]? = some (.cells #[.slice (some ⟨a, 0, none⟩) x.length x.length, .slice (some ⟨b, 0, none⟩) y.length y.length, .slice (some ⟨c, 0, none⟩) z.length z.length] t (0, 0))) (hg : gm ≤ g) (ha : gm ≤ a) (hb : gm ≤ b) (hc : gm ≤ c) : RdL gm w (some ⟨g, 0, none⟩) 3 [x, y, z] := by
  have sg := (Array.getElem?_eq_some_iff.1 h).1
  refine ⟨rfl, fun i S hS => ?_⟩
  match i with
  | 0 =>
    simp at hS; subst hS
    exact ⟨g, 0, _, _, _, rfl, ⟨hg, sg⟩, by rw [cell_of_row _ _ _ _ _ _ h]; rfl, (fun e => by cases e), rdi_lit hx, fun b o e => by injection e with e; injection e with e1 e2; subst e1; exact ha⟩
  | 1 =>
    simp at hS; subst hS
    exact ⟨g, 0, _, _, _, rfl, ⟨hg, sg⟩, by rw [cell_of_row _ _ _ _ _ _ h]; rfl, (fun e => by cases e), rdi_lit hy, fun b o e => by injection e with e; injection e with e1 e2; subst e1; exact hb⟩
  | 2 =>
    simp at hS; subst hS
    exact ⟨g, 0, _, _, _, rfl, ⟨hg, sg⟩, by rw [cell_of_row _ _ _ _ _ _ h]; rfl, (fun e => by cases e), rdi_lit hz, fun b o e => by injection e with e; injection e with e1 e2; subst e1; exact hc⟩
  | n + 3 => simp at hS
theorem front_any (w : World) : Calls Tryz.prog 10 #[] w fun e w' => ∃ a b, e = .returned (.tuple #[.slice (some ⟨a, 0, none⟩) 3 3, .slice (some ⟨b, 0, none⟩) 7 7]) ∧ RdF w' (some ⟨a, 0, none⟩) 3 exF ∧ RdI .i64 w' (some ⟨b, 0, none⟩) 7 exR ∧ Kp No w w' := by
  go_enter Tryz.func10, Tryz.ntmps10
  go_wp2_with fail
  go_ret2
  refine ⟨_, _, rfl, ?_, ?_, ?_⟩
  · exact rd_lit fcC_len (vs := exF) ((Kp.alloc No _ _).heap (at_new rfl) id)
  · exact rdi_lit (vs := exR) (at_new (by simp))
  · exact (Kp.alloc No _ _).tr (Kp.alloc No _ _)
theorem ex_sta : staN 5 3 true = [4, 2, 0, 1, 3] := by kernel_rfl
theorem ex_filE : filE 100 [10, 20, 5] = 0 := by kernel_rfl
theorem ex_filG : filG 100 [10, 20, 5] = 7 := by kernel_rfl
theorem ex_filL : filL 100 [10, 20, 5] = [18, 55, 87] := by kernel_rfl
def exP : List (List Int) := [[1, 3, 5], [0], [6, 4, 2]]
theorem ex_plan : intP (plnL exF exR 0) = exP := by rw [ex_planL]; rfl
theorem ex_gapE : gapE exF exR exP = 0 := by kernel_rfl
theorem ex_gapG : gapG exF exR exP = 5 := by kernel_rfl
theorem ex_mirE : mirE exF exP = 0 := by kernel_rfl
theorem ex_mirG : mirG exF exP = true := by kernel_rfl
theorem ex_fetE : fetE 100 [0, 25, 50, 75, 100] 10 8 = 0 := by kernel_rfl
theorem ex_fetL : fetL 100 [0, 25, 50, 75, 100] 10 8 = [10, 16, 18, 16, 10] := by kernel_rfl
theorem exP_len : ∀ S ∈ exP, S.length ≤ 70 := by decide
theorem exP_len2 : ∀ S ∈ exP, S.length ≤ 100000 := by decide
/-! The calls at the examples. -/
theorem exO (w : World) : Calls Tryz.prog 11 #[.int .i64 5, .int .i64 3, .bool true] w fun e w' => ∃ g, e = .returned (.tuple #[.slice (some ⟨g, 0, none⟩) 5 5, .int .i64 0]) ∧ RdI .i64 w' (some ⟨g, 0, none⟩) 5 [4, 2, 0, 1, 3] ∧ Kp No w w' := by
  refine (Order_ok 5 3 true w (by decide) (by decide)).mono ?_
  rintro e w' ⟨g, rfl, ho, k⟩
  rw [ex_sta] at ho
  exact ⟨g, rfl, own_rdi (zs := [4, 2, 0, 1, 3]) ho rfl, k⟩
theorem exFi (B : Nat) (w : World) (h : w.heap[B]? = some (.cells #[.int .i64 10, .int .i64 20, .int .i64 5] 2 (0, 0))) : Calls Tryz.prog 5 #[.int .i64 100, .slice (some ⟨B, 0, none⟩) 3 3] w fun e w' => ∃ A c, e = .returned (.tuple #[.int .i64 7, .slice A 3 c, .int .i64 0]) ∧ RdI .i64 w' A 3 [18, 55, 87] ∧ Kp No w w' := by
  refine (Fill_any 100 _ 3 3 [10, 20, 5] w (rdi_lit (vs := [10, 20, 5]) h) (by decide)).mono ?_
  rintro e w' ⟨A, c, he, ho, k⟩
  rw [ex_filE, ex_filG, ex_filL] at he
  rw [ex_filL] at ho
  exact ⟨A, c, he, RdI.of_own (xs := [18, 55, 87]) ho, k⟩
theorem exFe (B : Nat) (w : World) (h : w.heap[B]? = some (.cells #[.int .i64 0, .int .i64 25, .int .i64 50, .int .i64 75, .int .i64 100] 2 (0, 0))) : Calls Tryz.prog 7 #[.int .i64 100, .slice (some ⟨B, 0, none⟩) 5 5, .int .i64 10, .int .i64 8] w fun e w' => ∃ A c, e = .returned (.tuple #[.slice A 5 c, .int .i64 0]) ∧ RdI .i64 w' A 5 [10, 16, 18, 16, 10] ∧ Kp No w w' := by
  refine (Feet_any 100 _ 5 5 [0, 25, 50, 75, 100] 10 8 w (rdi_lit (vs := [0, 25, 50, 75, 100]) h) (by decide)).mono ?_
  rintro e w' ⟨A, c, he, ho, k⟩
  rw [ex_fetE, ex_fetL] at he
  rw [ex_fetL] at ho
  exact ⟨A, c, he, RdI.of_own (xs := [10, 16, 18, 16, 10]) ho, k⟩
theorem exPl (a b : Nat) (w : World) (hA : RdF w (some ⟨a, 0, none⟩) 3 exF) (hR : RdI .i64 w (some ⟨b, 0, none⟩) 7 exR) : Calls Tryz.prog 12 #[.slice (some ⟨a, 0, none⟩) 3 3, .slice (some ⟨b, 0, none⟩) 7 7, .int .i64 0] w fun e w' => ∃ g, e = .returned (.tuple #[.slice (some ⟨g, 0, none⟩) 3 3, .int .i64 0]) ∧ RdL w.heap.size w' (some ⟨g, 0, none⟩) 3 exP ∧ Kp No w w' := by
  refine (Plan_any _ _ 3 3 7 7 exF exR 0 w hA hR (by decide) (by decide)).mono ?_
  rintro e w' ⟨k, ⟨h, _⟩ | ⟨_, g, he, hr⟩⟩
  · exact (h ex_planE).elim
  · rw [ex_plan] at hr
    exact ⟨g, he, hr.rd, k⟩
set_option maxHeartbeats 8000000 in
set_option maxRecDepth 100000 in
theorem awake_any (w : World) : Calls Tryz.prog 4 #[] w fun e w' => e = .returned (.bool true) ∧ Kp No w w' := by
  go_enter Tryz.func4, Tryz.ntmps4
  go_wp2_with fail
  refine (front_any _).mono ?_
  rintro e w1 ⟨a, b, rfl, hA, hR, k1⟩
  have HA := Lib.hid hA
  have HR := Lib.hid hR
  have HK := Lib.hid k1
  clear hA hR k1
  go_wp2_with fail
  refine (exO _).mono ?_
  rintro e w2 ⟨go, rfl, hO, k2⟩
  have HO := Lib.hid hO
  replace HA := Lib.hid (HA.out.no k2)
  replace HR := Lib.hid (HR.out.no k2)
  replace HK := Lib.hid (HK.out.tr k2)
  clear hO k2
  go_wp2_with fail
  refine (exFi w2.heap.size _ (at_new rfl)).mono ?_
  rintro e w3 ⟨Af, cf, rfl, hF, k3⟩
  have k3 := (Kp.alloc No _ _).tr k3
  have HF := Lib.hid hF
  replace HO := Lib.hid (HO.out.no k3)
  replace HA := Lib.hid (HA.out.no k3)
  replace HR := Lib.hid (HR.out.no k3)
  replace HK := Lib.hid (HK.out.tr k3)
  clear hF k3
  go_wp2_with fail
  refine (exPl a b _ HA.out HR.out).mono ?_
  rintro e w4 ⟨gp, rfl, hP, k4⟩
  have HP := Lib.hid hP
  replace HF := Lib.hid (HF.out.no k4)
  replace HO := Lib.hid (HO.out.no k4)
  replace HA := Lib.hid (HA.out.no k4)
  replace HR := Lib.hid (HR.out.no k4)
  replace HK := Lib.hid (HK.out.tr k4)
  clear hP k4
  have G4 := Gap_any w3.heap.size (some ⟨a, 0, none⟩) (some ⟨b, 0, none⟩) (some ⟨gp, 0, none⟩) 3 3 7 7 3 3 exF exR exP w4 HA.out HR.out HP.out (by omega) (by omega) (by omega) exP_len
  rw [ex_gapE, ex_gapG] at G4
  have G4 := Lib.hid G4
  go_wp2_with fail
  refine G4.out.mono ?_
  clear G4
  rintro e w5 ⟨rfl, k5⟩
  replace HP := Lib.hid (HP.out.no k5)
  replace HF := Lib.hid (HF.out.no k5)
  replace HO := Lib.hid (HO.out.no k5)
  replace HA := Lib.hid (HA.out.no k5)
  replace HR := Lib.hid (HR.out.no k5)
  replace HK := Lib.hid (HK.out.tr k5)
  clear k5
  have M5 := Mirrored_any w3.heap.size (some ⟨a, 0, none⟩) (some ⟨gp, 0, none⟩) 3 3 3 3 exF exP w5 HA.out HP.out (by omega) (by omega) exP_len
  rw [ex_mirE, ex_mirG] at M5
  have M5 := Lib.hid M5
  go_wp2_with fail
  refine M5.out.mono ?_
  clear M5
  rintro e w6 ⟨rfl, k6⟩
  replace HP := Lib.hid (HP.out.no k6)
  replace HF := Lib.hid (HF.out.no k6)
  replace HO := Lib.hid (HO.out.no k6)
  replace HK := Lib.hid (HK.out.tr k6)
  clear k6 HA HR
  go_wp2_with fail
  refine (exFe w6.heap.size _ (at_new rfl)).mono ?_
  rintro e w7 ⟨Ax, cx, rfl, hX, k7⟩
  have k7 := (Kp.alloc No _ _).tr k7
  have HX := Lib.hid hX
  replace HP := Lib.hid (HP.out.no k7)
  replace HF := Lib.hid (HF.out.no k7)
  replace HO := Lib.hid (HO.out.no k7)
  replace HK := Lib.hid (HK.out.tr k7)
  clear hX k7
  go_wp2_with fail
  have A8 : Kp No w7 (w7.alloc (.cells #[.int .i64 4, .int .i64 2, .int .i64 0, .int .i64 1, .int .i64 3] 3)) := Kp.alloc _ _ _
  have S8 := sameI_any (some ⟨go, 0, none⟩) (some ⟨w7.heap.size, 0, none⟩) 5 5 5 5 [4, 2, 0, 1, 3] [4, 2, 0, 1, 3] _ (by decide) (by decide) (HO.out.no A8) (rdi_lit (vs := [4, 2, 0, 1, 3]) (at_new (w := w7) rfl))
  rw [show decide (([4, 2, 0, 1, 3] : List Int) = [4, 2, 0, 1, 3]) = true from rfl] at S8
  refine S8.mono ?_
  clear S8
  rintro e w8 ⟨rfl, q8, hw8⟩
  have k8 : Kp No w7 w8 := by rw [hw8]; exact A8.tr (Kp.drewN No _ _)
  replace HX := Lib.hid (HX.out.no k8)
  replace HP := Lib.hid (HP.out.no k8)
  replace HF := Lib.hid (HF.out.no k8)
  replace HK := Lib.hid (HK.out.tr k8)
  clear hw8 k8 A8 HO
  go_wp2_with fail
  have A9 : Kp No w8 (w8.alloc (.cells #[.int .i64 18, .int .i64 55, .int .i64 87] 2)) := Kp.alloc _ _ _
  have S9 := sameL_any Af (some ⟨w8.heap.size, 0, none⟩) 3 3 cf 3 [18, 55, 87] [18, 55, 87] _ (by decide) (by decide) (HF.out.no A9) (rdi_lit (vs := [18, 55, 87]) (at_new (w := w8) rfl))
  rw [show decide (([18, 55, 87] : List Int) = [18, 55, 87]) = true from rfl] at S9
  refine S9.mono ?_
  clear S9
  rintro e w9 ⟨rfl, q9, hw9⟩
  have k9 : Kp No w8 w9 := by rw [hw9]; exact A9.tr (Kp.drewN No _ _)
  replace HX := Lib.hid (HX.out.no k9)
  replace HP := Lib.hid (HP.out.no k9)
  replace HK := Lib.hid (HK.out.tr k9)
  clear hw9 k9 A9 HF
  go_wp2_with fail
  obtain ⟨W, hW⟩ : ∃ W, (((w9.alloc (.cells #[.int .i64 1, .int .i64 3, .int .i64 5] 3)).alloc (.cells #[.int .i64 0] 3)).alloc (.cells #[.int .i64 6, .int .i64 4, .int .i64 2] 3)).alloc (.cells #[.slice (some ⟨w9.heap.size, 0, none⟩) 3 3, .slice (some ⟨w9.heap.size + 1, 0, none⟩) 1 1, .slice (some ⟨w9.heap.size + 1 + 1, 0, none⟩) 3 3] 36) = W := ⟨_, rfl⟩
  have B1 : W.heap[w9.heap.size]? = some (.cells (([1, 3, 5] : List Int).map (Value.int .i64)).toArray 3 (0, 0)) := by rw [← hW]; exact (Kp.alloc No _ _).heap ((Kp.alloc No _ _).heap ((Kp.alloc No _ _).heap (at_new rfl) id) id) id
  have B2 : W.heap[w9.heap.size + 1]? = some (.cells (([0] : List Int).map (Value.int .i64)).toArray 3 (0, 0)) := by rw [← hW]; exact (Kp.alloc No _ _).heap ((Kp.alloc No _ _).heap (at_new (by simp)) id) id
  have B3 : W.heap[w9.heap.size + 1 + 1]? = some (.cells (([6, 4, 2] : List Int).map (Value.int .i64)).toArray 3 (0, 0)) := by rw [← hW]; exact (Kp.alloc No _ _).heap (at_new (by simp)) id
  have B4 : W.heap[w9.heap.size + 1 + 1 + 1]? = some (.cells #[.slice (some ⟨w9.heap.size, 0, none⟩) 3 3, .slice (some ⟨w9.heap.size + 1, 0, none⟩) 1 1, .slice (some ⟨w9.heap.size + 1 + 1, 0, none⟩) 3 3] 36 (0, 0)) := by rw [← hW]; exact at_new (by simp)
  have A10 : Kp No w9 W := by rw [← hW]; exact ((Kp.alloc No _ _).tr (Kp.alloc No _ _)).tr ((Kp.alloc No _ _).tr (Kp.alloc No _ _))
  rw [hW]
  clear hW
  have S10 := samePlan_any (some ⟨gp, 0, none⟩) (some ⟨w9.heap.size + 1 + 1 + 1, 0, none⟩) 3 3 3 3 w3.heap.size w9.heap.size exP exP W (by decide) (by decide) exP_len2 exP_len2 (HP.out.no A10) (rdl_lit3 (x := [1, 3, 5]) (y := [0]) (z := [6, 4, 2]) B1 B2 B3 B4 (by omega) (by omega) (by omega) (by omega))
  rw [show decide (exP = exP) = true from decide_eq_true rfl] at S10
  clear B1 B2 B3 B4
  refine S10.mono ?_
  clear S10
  rintro e w10 ⟨rfl, q10, hw10⟩
  have k10 : Kp No w9 w10 := by rw [hw10]; exact A10.tr (Kp.drewN No _ _)
  replace HX := Lib.hid (HX.out.no k10)
  replace HK := Lib.hid (HK.out.tr k10)
  clear hw10 k10 A10 HP
  go_wp2_with fail
  have A11 : Kp No w10 (w10.alloc (.cells #[.int .i64 10, .int .i64 16, .int .i64 18, .int .i64 16, .int .i64 10] 2)) := Kp.alloc _ _ _
  have S11 := sameL_any Ax (some ⟨w10.heap.size, 0, none⟩) 5 5 cx 5 [10, 16, 18, 16, 10] [10, 16, 18, 16, 10] _ (by decide) (by decide) (HX.out.no A11) (rdi_lit (vs := [10, 16, 18, 16, 10]) (at_new (w := w10) rfl))
  rw [show decide (([10, 16, 18, 16, 10] : List Int) = [10, 16, 18, 16, 10]) = true from rfl] at S11
  refine S11.mono ?_
  clear S11
  rintro e w11 ⟨rfl, q11, hw11⟩
  have k11 : Kp No w10 w11 := by rw [hw11]; exact A11.tr (Kp.drewN No _ _)
  replace HK := Lib.hid (HK.out.tr k11)
  clear hw11 k11 A11 HX
  go_wp2_with fail
  go_ret
  exact ⟨rfl, HK.out⟩
end Go.Proofs.YtakgcnjpmpcekaaGreat

namespace Go.Proofs.YtakgcnjpmpcekaaGreat
open Go.RowKit Go.Kq

set_option maxHeartbeats 4000000 in
theorem rgap_any (W : Int) (A : Option Addr) (m ca : Nat) (r : List Int) (w : World) (hR : RdI .i64 w A m r) (hm : m ≤ 100) (hW : 0 ≤ W ∧ W ≤ 10000000) (hr : ∀ x ∈ r, 0 ≤ x ∧ x ≤ 1000000) :
    Calls Tryz.prog 21 #[.int .i64 W, .slice A m ca] w fun e w' => e = .returned (.int .i64 (gapN W r)) ∧ w' = w := by
  have HR := Lib.hid hR
  have HL := Lib.hid hR.1
  have HRR := Lib.hid hr
  have bd : ∀ s : List Int, (∀ x ∈ s, 0 ≤ x ∧ x ≤ 1000000) → 0 ≤ s.sum ∧ s.sum ≤ 1000000 * s.length := fun s hs => by
    induction s with
    | nil => simp
    | cons a s ih =>
      have h1 := hs a (by simp)
      have h2 := ih fun x hx => hs x (by simp [hx])
      simp only [List.sum_cons, List.length_cons]
      omega
  have HBD := Lib.hid (fun k => bd (r.take k) fun x hx => hr x (List.mem_of_mem_take hx))
  have hG0 : gapN W r = if W - 2 * r.sum < 0 then -1 else (W - 2 * r.sum) / ((m : Int) + 1) := by unfold gapN; rw [HL.out]
  have HG := Lib.hid hG0
  clear hR hr bd hG0
  go_enter Tryz.func21, Tryz.ntmps21
  go_wp2_with fail
  go_loop [5, 6] (fun v i => ∃ k : Nat, k ≤ m ∧ i = .int .i64 (k : Nat) ∧ v = .int .i64 (W - 2 * (r.take k).sum)) (fun _ i => m - (intOf i).toNat)
  case atStart => exact ⟨0, by omega, rfl, by simp⟩
  case round =>
    obtain ⟨k, hk, rfl, rfl⟩ := hrel
    have hbd := HBD.out k
    have hkl : (r.take k).length ≤ 100 := by rw [List.length_take]; omega
    have hbd2 : 0 ≤ (r.take k).sum ∧ (r.take k).sum ≤ 100000000 := ⟨hbd.1, by omega⟩
    clear hbd
    by_cases hlt : k < m
    · obtain ⟨x, hx⟩ : ∃ x, r[k]? = some x := ⟨_, List.getElem?_eq_getElem (by rw [HL.out]; exact hlt)⟩
      obtain ⟨b, o, rfl, hb, hc⟩ := HR.out.2 k x hx
      have hx1 := HRR.out x (List.mem_of_getElem? hx)
      have HT := Lib.hid (show (r.take (k + 1)).sum = (r.take k).sum + x by rw [List.take_add_one, hx]; simp)
      clear hx
      generalize (r.take k).sum = T at *
      go_wp2_with fail
      go_round
      case rel => exact ⟨k + 1, by omega, by go_num, by rw [HT.out]; congr 1; omega⟩
      case measure => simp [intOf]; omega
    · obtain rfl : k = m := by omega
      have hrt : r.take k = r := List.take_of_length_le (by rw [HL.out]; exact Nat.le_refl _)
      rw [hrt] at hbd2 ⊢
      clear hrt
      generalize r.sum = SS at *
      by_cases hneg : W - 2 * SS < 0
      · have HE := Lib.hid (show gapN W r = -1 by rw [HG.out, if_pos hneg])
        go_wp2_with fail
        go_ret
        exact ⟨by rw [HE.out]; rfl, rfl⟩
      · obtain ⟨G, hG⟩ : ∃ G, (W - 2 * SS) / ((k : Int) + 1) = G := ⟨_, rfl⟩
        have HE := Lib.hid (show gapN W r = G by rw [HG.out, if_neg hneg, hG])
        go_wp2_with fail
        go_ret
        exact ⟨by rw [HE.out]; rfl, rfl⟩
end Go.Proofs.YtakgcnjpmpcekaaGreat
