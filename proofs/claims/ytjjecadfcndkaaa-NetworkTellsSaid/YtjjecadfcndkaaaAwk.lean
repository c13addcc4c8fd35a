/- Chapter 14: the walk of awake. -/
import Derived.Test.YtjjecadfcndkaaaSam
namespace Go.Proofs.Ytjjecadfcndkaaa
open Go.RowKit Go.Kq Go.Flow

theorem rdi_two (w : World) (x y : Int) (t : TypeId) : RdI .i64 (w.alloc (.cells #[.int .i64 x, .int .i64 y] t)) (some ⟨w.heap.size, 0, none⟩) 2 [x, y] := by
  refine ⟨rfl, fun i u hu => ?_⟩
  match i, hu with
  | 0, hu => simp at hu; subst hu; exact ⟨_, _, rfl, by simp, by go_simp⟩
  | 1, hu => simp at hu; subst hu; exact ⟨_, _, rfl, by simp, by go_simp⟩
  | n + 2, hu => simp at hu
theorem rdi_three (w : World) (x y z : Int) (t : TypeId) : RdI .i64 (w.alloc (.cells #[.int .i64 x, .int .i64 y, .int .i64 z] t)) (some ⟨w.heap.size, 0, none⟩) 3 [x, y, z] := by
  refine ⟨rfl, fun i u hu => ?_⟩
  match i, hu with
  | 0, hu => simp at hu; subst hu; exact ⟨_, _, rfl, by simp, by go_simp⟩
  | 1, hu => simp at hu; subst hu; exact ⟨_, _, rfl, by simp, by go_simp⟩
  | 2, hu => simp at hu; subst hu; exact ⟨_, _, rfl, by simp, by go_simp⟩
  | n + 3, hu => simp at hu
theorem rdi_five (w : World) (x y z u v : Int) (t : TypeId) : RdI .i64 (w.alloc (.cells #[.int .i64 x, .int .i64 y, .int .i64 z, .int .i64 u, .int .i64 v] t)) (some ⟨w.heap.size, 0, none⟩) 5 [x, y, z, u, v] := by
  refine ⟨rfl, fun i u hu => ?_⟩
  match i, hu with
  | 0, hu => simp at hu; subst hu; exact ⟨_, _, rfl, by simp, by go_simp⟩
  | 1, hu => simp at hu; subst hu; exact ⟨_, _, rfl, by simp, by go_simp⟩
  | 2, hu => simp at hu; subst hu; exact ⟨_, _, rfl, by simp, by go_simp⟩
  | 3, hu => simp at hu; subst hu; exact ⟨_, _, rfl, by simp, by go_simp⟩
  | 4, hu => simp at hu; subst hu; exact ⟨_, _, rfl, by simp, by go_simp⟩
  | n + 5, hu => simp at hu
theorem own_rdn {w : World} {base e n : Nat} {v : Value} {L : List Nat} (h : w.ownsRow base e 1 v n (L.map natV)) : ∃ a cap, v = .slice a n cap ∧ RdI .i64 w a n (L.map Int.ofNat) := by
  obtain ⟨a, cap, rfl, _, _, _⟩ := own_form h
  exact ⟨a, cap, rfl, RdI.of_own (by rw [List.map_map]; exact h)⟩
theorem own_rdl {w : World} {base e n : Nat} {v : Value} {L : List Int} (h : w.ownsRow base e 1 v n (L.map (Value.int .i64))) : ∃ a cap, v = .slice a n cap ∧ RdI .i64 w a n L := by
  obtain ⟨a, cap, rfl, _, _, _⟩ := own_form h
  exact ⟨a, cap, rfl, RdI.of_own h⟩
theorem box3 {w : World} {b : Nat} {x y z : Value} {t : TypeId} (h : w.heap[b]? = some (.cells #[x, y, z] t (0, 0))) : w.cell? ⟨b, 0, none⟩ = some x ∧ w.cell? ⟨b, 1, none⟩ = some y ∧ w.cell? ⟨b, 2, none⟩ = some z :=
  ⟨by rw [cell_of_row w b 0 _ _ _ h]; rfl, by rw [cell_of_row w b 1 _ _ _ h]; rfl, by rw [cell_of_row w b 2 _ _ _ h]; rfl⟩
theorem box2 {w : World} {b : Nat} {x y : Value} {t : TypeId} (h : w.heap[b]? = some (.cells #[x, y] t (0, 0))) : w.cell? ⟨b, 0, none⟩ = some x ∧ w.cell? ⟨b, 1, none⟩ = some y :=
  ⟨by rw [cell_of_row w b 0 _ _ _ h]; rfl, by rw [cell_of_row w b 1 _ _ _ h]; rfl⟩
theorem ex_gr0 {d : Int} (h : Gr exN false d) : d = 8 := h.uniq ⟨st2, ex_cut.1, ex_cut.2⟩
theorem ex_gr1 {d : Int} (h : Gr exN true d) : d = 10 := h.uniq ⟨st1, ex_high.1, ex_high.2⟩
theorem ex_cu {R : Nat → Bool} (h : Cu exN false R) : mem R 4 = [0, 1] := by rw [Min.uniq h ex_cut.1]; decide
theorem ex_s1 {w w' : World} {vf vp : Value} (h : Sup w w' exN false [2, 5] vf vp) : vp = .slice none 0 0 ∧ w'.ownsRow w.heap.size 2 1 vf 5 ([3, 4, 3, 2, 0].map (Value.int .i64)) := by
  rcases h with ⟨F, hF, hv, ho⟩ | ⟨R, hR, hlt, _⟩
  · rw [hF.uniq ex_least] at ho
    exact ⟨hv, ho⟩
  · have := feas_wt (N := exN) (ds := [2, 5]) rfl ex_least.1 hR.1
    omega
theorem ex_s2 {w w' : World} {vf vp : Value} (h : Sup w w' exN false [0, 6] vf vp) : vf = .slice none 0 0 ∧ w'.ownsRow w.heap.size 3 1 vp 3 ([0, 1, 2].map natV) := by
  rcases h with ⟨F, hF, _⟩ | ⟨R, hR, _, hv, ho⟩
  · exact absurd hF.1 ex_no
  · rw [Min.uniq hR ex_min] at ho
    exact ⟨hv, ho⟩
theorem ex_sp {s c : Int} (h : Spa exN false [2, 4] 0 s c) : s = 2 ∧ c = 0 := by
  rcases h with ⟨h, _⟩ | ⟨_, _, ⟨_, _, R, hR, hlt⟩ | ⟨h1, _, h3⟩⟩
  · simp [exN] at h
  · have := feas_wt (N := exN) (ds := [2, 4]) rfl ex_can hR.1
    omega
  · exact ⟨Net.Sp.uniq (d := 2) rfl h3 ex_spare, h1⟩
set_option maxHeartbeats 8000000 in
set_option maxRecDepth 100000 in
theorem awake_any (w : World) : Calls Try.prog 10 #[] w fun e w' => e = .returned (.bool true) ∧ Kp No w w' := by
  go_enter Try.func10, Try.ntmps10
  go_wp2_with fail
  refine (example_any _).mono ?_
  rintro e w1 ⟨A, B, rfl, hR, hk1⟩
  have HR := Lib.hid hR
  have K1 := Lib.hid hk1
  have HG := Lib.hid (fun w => Greatest_ok exN ex_ok A B 5 2 w)
  have HC := Lib.hid (fun w => Cut_ok exN ex_ok A B 5 2 false w)
  have HS := Lib.hid (fun (D : Option Addr) ds w => Supply_ok exN ex_ok A B D 5 2 2 2 false ds w)
  have HP := Lib.hid (fun (D : Option Addr) ds w => Spare_ok exN ex_ok A B D 5 2 2 2 false ds 0 w)
  clear hR hk1
  simp only [netV] at HG HC HS HP ⊢
  go_wp2_with fail
  have K2 := Lib.hid (K1.out.tr (Kp.alloc No w1 (.cells #[.int .i64 (exN.n : Int), .slice A exN.tr.length 5, .slice B exN.ch.length 2] 25)))
  have B2 := Lib.hid (heap_alloc_new w1 (.cells #[.int .i64 (exN.n : Int), .slice A exN.tr.length 5, .slice B exN.ch.length 2] 25))
  refine (HG.out _ (HR.out.no (Kp.alloc _ _ _))).mono ?_
  rintro e w3 ⟨lo, hi, rfl, hlo, hhi, hk3⟩
  obtain rfl := ex_gr0 hlo
  obtain rfl := ex_gr1 hhi
  have K3 := Lib.hid (K2.out.tr hk3)
  have R3 := Lib.hid (HR.out.no ((Kp.alloc No w1 (.cells #[.int .i64 (exN.n : Int), .slice A exN.tr.length 5, .slice B exN.ch.length 2] 25)).tr hk3))
  have B3 := Lib.hid (hk3.heap B2.out (fun h => h))
  obtain ⟨n0, n1, n2⟩ := box3 B3.out
  have hz3 := (Array.getElem?_eq_some_iff.1 B3.out).1
  clear hlo hhi hk3
  go_wp2_with fail
  have K4 := Lib.hid (K3.out.tr (Kp.alloc No w3 (.cells #[.int .i64 8, .int .i64 10] 29)))
  refine (HC.out _ (R3.out.no (Kp.alloc _ _ _))).mono ?_
  rintro e w5 ⟨v5, R, rfl, hcu, ho5, hk5⟩
  rw [show exN.n = 4 from rfl, ex_cu hcu] at ho5
  obtain ⟨a5, c5', rfl, hi5⟩ := own_rdn ho5
  have G5 := Lib.hid (hk5.heap (heap_alloc_new w3 (.cells #[.int .i64 8, .int .i64 10] 29)) (fun h => h))
  have B5 := Lib.hid (hk5.heap ((Kp.alloc No w3 (.cells #[.int .i64 8, .int .i64 10] 29)).heap B3.out (fun h => h)) (fun h => h))
  have R5 := Lib.hid ((R3.out.no (Kp.alloc No w3 (.cells #[.int .i64 8, .int .i64 10] 29))).no hk5)
  have K5 := Lib.hid (K4.out.tr hk5)
  have I5 := Lib.hid hi5
  obtain ⟨m0, m1, m2⟩ := box3 B5.out
  have hz5 := (Array.getElem?_eq_some_iff.1 B5.out).1
  clear hcu ho5 hi5 hk5 n0 n1 n2
  go_wp2_with fail
  have K6 := Lib.hid (K5.out.tr (Kp.alloc No w5 (.cells #[.int .i64 2, .int .i64 5] 2)))
  refine (HS.out _ [2, 5] _ (R5.out.no (Kp.alloc _ _ _)) (rdi_two w5 2 5 2) (by simp) rfl (by decide)).mono ?_
  rintro e w7 ⟨vf, vp, rfl, hs7, hk7⟩
  obtain ⟨rfl, ho7⟩ := ex_s1 hs7
  obtain ⟨a7, c7, rfl, hi7⟩ := own_rdl ho7
  have hkk := (Kp.alloc No w5 (.cells #[.int .i64 2, .int .i64 5] 2)).tr hk7
  have G7 := Lib.hid (hkk.heap G5.out (fun h => h))
  have B7 := Lib.hid (hkk.heap B5.out (fun h => h))
  have R7 := Lib.hid (R5.out.no hkk)
  have K7 := Lib.hid (K5.out.tr hkk)
  have I57 := Lib.hid (I5.out.no hkk)
  have I7 := Lib.hid hi7
  obtain ⟨p0, p1, p2⟩ := box3 B7.out
  have hz7 := (Array.getElem?_eq_some_iff.1 B7.out).1
  clear hs7 ho7 hi7 hk7 hkk m0 m1 m2
  go_wp2_with fail
  refine (HS.out _ [0, 6] _ (R7.out.no (Kp.alloc _ _ _)) (rdi_two w7 0 6 2) (by simp) rfl (by decide)).mono ?_
  rintro e w9 ⟨vf, vp, rfl, hs9, hk9⟩
  obtain ⟨rfl, ho9⟩ := ex_s2 hs9
  obtain ⟨a9, c9, rfl, hi9⟩ := own_rdn ho9
  have hkk := (Kp.alloc No w7 (.cells #[.int .i64 0, .int .i64 6] 2)).tr hk9
  have G9 := Lib.hid (hkk.heap G7.out (fun h => h))
  have B9 := Lib.hid (hkk.heap B7.out (fun h => h))
  have R9 := Lib.hid (R7.out.no hkk)
  have K9 := Lib.hid (K7.out.tr hkk)
  have I59 := Lib.hid (I57.out.no hkk)
  have I79 := Lib.hid (I7.out.no hkk)
  have I9 := Lib.hid hi9
  obtain ⟨q0, q1, q2⟩ := box3 B9.out
  have hz9 := (Array.getElem?_eq_some_iff.1 B9.out).1
  clear hs9 ho9 hi9 hk9 hkk p0 p1 p2
  go_wp2_with fail
  refine (HP.out _ [2, 4] _ (R9.out.no (Kp.alloc _ _ _)) (rdi_two w9 2 4 2) (by simp) rfl (by decide)).mono ?_
  rintro e w11 ⟨s, c, rfl, hs11, hk11⟩
  obtain ⟨rfl, rfl⟩ := ex_sp hs11
  have hkk := (Kp.alloc No w9 (.cells #[.int .i64 2, .int .i64 4] 2)).tr hk11
  have G11 := Lib.hid (hkk.heap G9.out (fun h => h))
  have K11 := Lib.hid (K9.out.tr hkk)
  have I511 := Lib.hid (I59.out.no hkk)
  have I711 := Lib.hid (I79.out.no hkk)
  have I911 := Lib.hid (I9.out.no hkk)
  obtain ⟨r0, r1⟩ := box2 G11.out
  clear hs11 hk11 hkk q0 q1 q2
  go_wp2_with fail
  refine (sameI_any a5 _ 2 2 c5' 2 _ [0, 1] _ (I511.out.no (Kp.alloc _ _ _)) (rdi_two w11 0 1 3) (by omega)).mono ?_
  rw [show decide (List.map Int.ofNat [0, 1] = [0, 1]) = true from rfl]
  rintro e w12 ⟨rfl, hk12⟩
  have KK12 := Lib.hid ((Kp.alloc No w11 (.cells #[.int .i64 0, .int .i64 1] 3)).tr hk12)
  clear hk12
  go_wp2_with fail
  refine (sameL_any a7 _ 5 5 c7 5 _ [3, 4, 3, 2, 0] _ ((I711.out.no KK12.out).no (Kp.alloc _ _ _)) (rdi_five w12 3 4 3 2 0 2) (by omega)).mono ?_
  rw [show decide ([3, 4, 3, 2, 0] = ([3, 4, 3, 2, 0] : List Int)) = true from rfl]
  rintro e w13 ⟨rfl, hk13⟩
  have KK13 := Lib.hid (KK12.out.tr ((Kp.alloc No w12 (.cells #[.int .i64 3, .int .i64 4, .int .i64 3, .int .i64 2, .int .i64 0] 2)).tr hk13))
  clear hk13
  go_wp2_with fail
  refine (sameI_any a9 _ 3 3 c9 3 _ [0, 1, 2] _ ((I911.out.no KK13.out).no (Kp.alloc _ _ _)) (rdi_three w13 0 1 2 3) (by omega)).mono ?_
  rw [show decide (List.map Int.ofNat [0, 1, 2] = [0, 1, 2]) = true from rfl]
  rintro e w14 ⟨rfl, hk14⟩
  have KK14 := Lib.hid (KK13.out.tr ((Kp.alloc No w13 (.cells #[.int .i64 0, .int .i64 1, .int .i64 2] 3)).tr hk14))
  clear hk14
  go_wp2_with fail
  go_ret
  exact ⟨rfl, K11.out.tr KK14.out⟩
end Go.Proofs.Ytjjecadfcndkaaa
