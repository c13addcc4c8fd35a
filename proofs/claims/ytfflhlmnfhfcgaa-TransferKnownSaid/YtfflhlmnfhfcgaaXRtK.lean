/- Chapter 33: the walk of the statement TransferKnown: the examples of the document. -/
import Derived.Test.YtfflhlmnfhfcgaaXRtU
import Derived.Test.YtfflhlmnfhfcgaaXLco
namespace Go.Proofs.Ytfflhlmnfhfcgaa
open Go.RowKit Go.Kq

theorem kChk0 : chk wantV [] 24 = 0 := by kernel_rfl
theorem kMiss0 : missV wantV [] = [⟨0, 0, 1, 40⟩, ⟨0, 12, 2, 20⟩] := by kernel_rfl
theorem kCost0 : costV wantV [] = 420 := by kernel_rfl
theorem kBest0 : bestV wantV haveV 0 = ([], 420, 0) := by kernel_rfl
theorem kMiss1 : missV wantV haveV = [⟨0, 0, 1, 40⟩] := by kernel_rfl
theorem kRoute : routeV wantV haveV = ⟨[0], ⟨115, [0], srt [0, 1]⟩, 0⟩ := by kernel_rfl
theorem kSrt : srt [0, 1] = [0, 1] := (srt_uniq (List.Perm.refl _) (by simp)).symm
theorem rdv_lit1 (w : World) (v : Vc) (e : TypeId) : RdV (w.alloc (.cells #[.int .i64 v.d, .int .i64 v.p, .int .i64 v.f, .int .i64 v.q] e)) (some ⟨w.heap.size, 0, none⟩) 1 [v] := by
  refine ⟨rfl, fun i u hu => ?_⟩
  match i, hu with
  | 0, hu =>
    simp at hu
    subst hu
    refine ⟨_, _, rfl, by simp, ?_, ?_, ?_, ?_⟩ <;> go_simp
  | n + 1, hu => simp at hu
theorem rdv_lit2 (w : World) (v u : Vc) (e : TypeId) : RdV (w.alloc (.cells #[.int .i64 v.d, .int .i64 v.p, .int .i64 v.f, .int .i64 v.q, .int .i64 u.d, .int .i64 u.p, .int .i64 u.f, .int .i64 u.q] e)) (some ⟨w.heap.size, 0, none⟩) 2 [v, u] := by
  refine ⟨rfl, fun i x hx => ?_⟩
  match i, hx with
  | 0, hx => simp at hx; subst hx; exact ⟨_, _, rfl, by simp, by go_simp, by go_simp, by go_simp, by go_simp⟩
  | 1, hx => simp at hx; subst hx; exact ⟨_, _, rfl, by simp, by go_simp, by go_simp, by go_simp, by go_simp⟩
  | n + 2, hx => simp at hx
set_option maxHeartbeats 4000000 in
set_option maxRecDepth 100000 in
theorem tknown_any (w : World) : Calls Try.prog 9 #[] w fun e w' => e = .returned (.bool true) ∧ Kp No w w' := by
  go_enter Try.func9, Try.ntmps9
  go_wp2_with fail
  refine (want_any _).mono ?_
  rintro e w1 ⟨g1, rfl, hr1, hk1⟩
  go_wp2_with fail
  refine (Profile_any _ 2 2 wantV w1 hr1).mono ?_
  rw [kChk0, kMiss0]
  rintro e w2 ⟨v2, rfl, ho2, hk2⟩
  obtain ⟨a2, c2, rfl, hc2, hr2⟩ := own_rd ho2
  have K2 := Lib.hid (hk1.tr hk2)
  have R2 := Lib.hid hr2
  clear hr1 hk1 hk2 ho2 hr2
  go_wp2_with fail
  refine (want_any _).mono ?_
  rintro e w3 ⟨g3, rfl, hr3, hk3⟩
  go_wp2_with fail
  refine (Cost2_any _ none 2 0 2 0 wantV [] w3 hr3 (rdv_nil _ _)).mono ?_
  rw [kChk0, kCost0]
  rintro e w4 ⟨rfl, hk4⟩
  have K4 := Lib.hid (K2.out.tr (hk3.tr hk4))
  have R4 := Lib.hid (R2.out.no (hk3.tr hk4))
  clear hr3 hk3 hk4 K2 R2
  go_wp2_with fail
  refine (want_any _).mono ?_
  rintro e w5 ⟨g5, rfl, hr5, hk5⟩
  go_wp2_with fail
  refine (have_any _).mono ?_
  rintro e w6 ⟨g6, rfl, hr6, hk6⟩
  go_wp2_with fail
  refine (Best_any _ _ 2 3 2 3 wantV haveV 0 w6 (hr5.no hk6) hr6).mono ?_
  rw [kBest0]
  rintro e w7 ⟨v7, rfl, ho7, hk7⟩
  obtain ⟨a7, c7, rfl, hc7, _⟩ := own_rdi ho7
  have K7 := Lib.hid (K4.out.tr (hk5.tr (hk6.tr hk7)))
  have R7 := Lib.hid (R4.out.no (hk5.tr (hk6.tr hk7)))
  clear hr5 hr6 hk5 hk6 hk7 ho7 K4 R4
  go_wp2_with fail
  refine (want_any _).mono ?_
  rintro e w8 ⟨g8, rfl, hr8, hk8⟩
  go_wp2_with fail
  refine (have_any _).mono ?_
  rintro e w9 ⟨g9, rfl, hr9, hk9⟩
  go_wp2_with fail
  refine (Missing_any _ _ 2 3 2 3 wantV haveV w9 (hr8.no hk9) hr9).mono ?_
  rw [chk0, kMiss1]
  rintro e w10 ⟨v10, rfl, ho10, hk10⟩
  obtain ⟨a10, c10, rfl, hc10, hr10⟩ := own_rd ho10
  have K10 := Lib.hid (K7.out.tr (hk8.tr (hk9.tr hk10)))
  have R10 := Lib.hid (R7.out.no (hk8.tr (hk9.tr hk10)))
  have S10 := Lib.hid hr10
  clear hr8 hr9 hk8 hk9 hk10 ho10 hr10 K7 R7
  go_wp2_with fail
  refine (sameC_any a2 _ 2 2 c2 2 [⟨0, 0, 1, 40⟩, ⟨0, 12, 2, 20⟩] [⟨0, 0, 1, 40⟩, ⟨0, 12, 2, 20⟩] _ (R10.out.no (Kp.alloc _ _ _)) (rdv_lit2 w10 ⟨0, 0, 1, 40⟩ ⟨0, 12, 2, 20⟩ 59) (by omega)).mono ?_
  rw [show eqL [⟨0, 0, 1, 40⟩, ⟨0, 12, 2, 20⟩] [⟨0, 0, 1, 40⟩, ⟨0, 12, 2, 20⟩] = true by kernel_rfl]
  rintro e w11 ⟨rfl, hk11⟩
  have K11 := Lib.hid (K10.out.tr ((Kp.alloc _ _ _).tr hk11))
  have S11 := Lib.hid (S10.out.no ((Kp.alloc _ _ _).tr hk11))
  clear hk11 K10 R10 S10
  go_wp2_with fail
  refine (sameC_any a10 _ 1 1 c10 1 [⟨0, 0, 1, 40⟩] [⟨0, 0, 1, 40⟩] _ (S11.out.no (Kp.alloc _ _ _)) (rdv_lit1 w11 ⟨0, 0, 1, 40⟩ 59) (by omega)).mono ?_
  rw [show eqL [⟨0, 0, 1, 40⟩] [⟨0, 0, 1, 40⟩] = true by kernel_rfl]
  rintro e w12 ⟨rfl, hk12⟩
  have K12 := Lib.hid (K11.out.tr ((Kp.alloc _ _ _).tr hk12))
  clear hk12 K11 S11
  go_wp2_with fail
  refine (want_any _).mono ?_
  rintro e w13 ⟨g13, rfl, hr13, hk13⟩
  go_wp2_with fail
  refine (have_any _).mono ?_
  rintro e w14 ⟨g14, rfl, hr14, hk14⟩
  go_wp2_with fail
  refine (Route_any _ _ 2 3 2 3 wantV haveV w14 (hr13.no hk14) hr14).mono ?_
  rw [kRoute, kSrt]
  rintro e w15 ⟨vF, vT, vS, rfl, ⟨m1, m2, m3⟩, hk15⟩
  obtain ⟨aF, cF, rfl, _, hF⟩ := own_rdi (L := [0]) m1
  obtain ⟨aT, cT, rfl, _, hT⟩ := own_rdi (L := [0]) m2
  obtain ⟨aS, cS, rfl, _, hS⟩ := own_rdi (L := [0, 1]) m3
  have K15 := Lib.hid (K12.out.tr (hk13.tr (hk14.tr hk15)))
  have F15 := Lib.hid hF
  have T15 := Lib.hid hT
  have S15 := Lib.hid hS
  clear hr13 hr14 hk13 hk14 hk15 m1 m2 m3 hF hT hS K12
  go_wp2_with fail
  have hb := heap_alloc_new w15 (.cells #[.slice aF 1 cF, .slice aT 1 cT, .slice aS 2 cS, .int .i64 115] 51)
  have HB := Lib.hid hb
  clear hb
  have f15 : RdI w15 aF 1 [0] := F15.out
  have t15 : RdI w15 aT 1 [0] := T15.out
  have s15 : RdI w15 aS 2 [0, 1] := S15.out
  have F15 := Lib.hid f15
  have T15 := Lib.hid t15
  have S15 := Lib.hid s15
  clear f15 t15 s15
  have hl := rdi_new1 (w15.alloc (.cells #[.slice aF 1 cF, .slice aT 1 cT, .slice aS 2 cS, .int .i64 115] 51)) 0
  rw [show (w15.alloc (.cells #[.slice aF 1 cF, .slice aT 1 cT, .slice aS 2 cS, .int .i64 115] 51)).heap.size = w15.heap.size + 1 by simp] at hl
  refine (same_any aF _ 1 1 cF 1 [0] [0] _ ((F15.out.no (Kp.alloc _ _ (.cells #[.slice aF 1 cF, .slice aT 1 cT, .slice aS 2 cS, .int .i64 115] 51))).no (Kp.alloc _ _ _)) hl (by omega)).mono ?_
  rw [show decide (([0] : List Int) = [0]) = true from rfl]
  rintro e w16 ⟨rfl, hk16⟩
  have k16 : Kp No (w15.alloc (.cells #[.slice aF 1 cF, .slice aT 1 cT, .slice aS 2 cS, .int .i64 115] 51)) w16 := (Kp.alloc _ _ _).tr hk16
  have x1 : w16.cell? ⟨w15.heap.size, 1, none⟩ = some (.slice aT 1 cT) := cell_heap (k16.heap HB.out id) 1
  have k16' : Kp No w15 w16 := (Kp.alloc _ _ _).tr k16
  clear hk16
  go_wp2_with fail
  clear x1
  refine (same_any aT _ 1 1 cT 1 [0] [0] _ ((T15.out.no k16').no (Kp.alloc _ _ _)) (rdi_new1 _ 0) (by omega)).mono ?_
  rw [show decide (([0] : List Int) = [0]) = true from rfl]
  rintro e w17 ⟨rfl, hk17⟩
  have k17 := k16.tr ((Kp.alloc _ _ _).tr hk17)
  have x2 : w17.cell? ⟨w15.heap.size, 2, none⟩ = some (.slice aS 2 cS) := cell_heap (k17.heap HB.out id) 2
  have k17' := k16'.tr ((Kp.alloc _ _ _).tr hk17)
  clear hk17
  go_wp2_with fail
  clear x2
  refine (same_any aS _ 2 2 cS 2 [0, 1] [0, 1] _ ((S15.out.no k17').no (Kp.alloc _ _ _)) (rdi_new2 _ 0 1) (by omega)).mono ?_
  rw [show decide (([0, 1] : List Int) = [0, 1]) = true from rfl]
  rintro e w18 ⟨rfl, hk18⟩
  have k18 := k17.tr ((Kp.alloc _ _ _).tr hk18)
  have x3 : w18.cell? ⟨w15.heap.size, 3, none⟩ = some (.int .i64 115) := cell_heap (k18.heap HB.out id) 3
  have k18' := k17'.tr ((Kp.alloc _ _ _).tr hk18)
  clear hk18
  go_wp2_with fail
  refine (awake_any _).mono ?_
  rintro e w19 ⟨rfl, hk19⟩
  go_wp2_with fail
  go_ret
  exact ⟨rfl, K15.out.tr (k18'.tr hk19)⟩
end Go.Proofs.Ytfflhlmnfhfcgaa
