/- Chapter 33: the examples; the walk of awake. -/
import Derived.Test.YtfflhlmnfhfcgaaXCho
namespace Go.Proofs.Ytfflhlmnfhfcgaa
open Go.RowKit Go.Kq

def wantV : List Vc := [⟨0, 0, 1, 40⟩, ⟨0, 12, 2, 20⟩]
def haveV : List Vc := [⟨0, 0, 2, 40⟩, ⟨0, 12, 2, 25⟩, ⟨1, 0, 1, 40⟩]
theorem best14 : bestV wantV haveV 14 = ([0, 1], 115, 0) := by kernel_rfl
theorem best1 : bestV wantV haveV 1 = ([0], 220, 0) := by kernel_rfl
theorem cost0 : canon (bal (btw wantV haveV)) (keys (btw wantV haveV)) = 395 := by kernel_rfl
theorem chk0 : chk wantV haveV 24 = 0 := by kernel_rfl

set_option maxHeartbeats 1000000 in
theorem want_any (w : World) : Calls Try.prog 28 #[] w fun e w' => ∃ g, e = .returned (.slice (some ⟨g, 0, none⟩) 2 2) ∧ RdV w' (some ⟨g, 0, none⟩) 2 wantV ∧ Kp No w w' := by
  go_enter Try.func28, Try.ntmps28
  go_wp2
  go_ret
  refine ⟨_, rfl, ⟨rfl, fun i v hv => ?_⟩, Kp.alloc _ _ _⟩
  match i, hv with
  | 0, hv => simp [wantV] at hv; subst hv; exact ⟨_, _, rfl, by simp, by go_simp, by go_simp, by go_simp, by go_simp⟩
  | 1, hv => simp [wantV] at hv; subst hv; exact ⟨_, _, rfl, by simp, by go_simp, by go_simp, by go_simp, by go_simp⟩
  | n + 2, hv => simp [wantV] at hv
set_option maxHeartbeats 1000000 in
theorem have_any (w : World) : Calls Try.prog 29 #[] w fun e w' => ∃ g, e = .returned (.slice (some ⟨g, 0, none⟩) 3 3) ∧ RdV w' (some ⟨g, 0, none⟩) 3 haveV ∧ Kp No w w' := by
  go_enter Try.func29, Try.ntmps29
  go_wp2
  go_ret
  refine ⟨_, rfl, ⟨rfl, fun i v hv => ?_⟩, Kp.alloc _ _ _⟩
  match i, hv with
  | 0, hv => simp [haveV] at hv; subst hv; exact ⟨_, _, rfl, by simp, by go_simp, by go_simp, by go_simp, by go_simp⟩
  | 1, hv => simp [haveV] at hv; subst hv; exact ⟨_, _, rfl, by simp, by go_simp, by go_simp, by go_simp, by go_simp⟩
  | 2, hv => simp [haveV] at hv; subst hv; exact ⟨_, _, rfl, by simp, by go_simp, by go_simp, by go_simp, by go_simp⟩
  | n + 3, hv => simp [haveV] at hv
theorem own_rdi {w : World} {base : Nat} {v : Value} {L : List Nat} {n : Nat} (h : w.ownsRow base 3 1 v n (L.map natV)) : ∃ a cap, v = .slice a n cap ∧ n ≤ cap ∧ RdI w a n (L.map Int.ofNat) := by
  have hl := h.1
  simp at hl
  obtain ⟨a, cap, rfl, h1, h2, h3⟩ := own_form h
  refine ⟨a, cap, rfl, h1, by simpa using hl, fun i x hx => ?_⟩
  rw [List.getElem?_map] at hx
  obtain ⟨j, hj, rfl⟩ := Option.map_eq_some_iff.1 hx
  have hi := (List.getElem?_eq_some_iff.1 hj).1
  obtain ⟨g, rfl⟩ := h3 (by omega)
  exact ⟨g, 0, rfl, by rw [Nat.zero_add, h.cellAt _ (by omega), List.getElem?_map, hj]; rfl⟩
theorem rdi_new2 (w : World) (x y : Int) : RdI (w.alloc (.cells #[.int .i64 x, .int .i64 y] 3)) (some ⟨w.heap.size, 0, none⟩) 2 [x, y] := by
  refine ⟨rfl, fun i u hu => ?_⟩
  match i, hu with
  | 0, hu => simp at hu; subst hu; exact ⟨_, _, rfl, by go_simp⟩
  | 1, hu => simp at hu; subst hu; exact ⟨_, _, rfl, by go_simp⟩
  | n + 2, hu => simp at hu
theorem rdi_new1 (w : World) (x : Int) : RdI (w.alloc (.cells #[.int .i64 x] 3)) (some ⟨w.heap.size, 0, none⟩) 1 [x] := by
  refine ⟨rfl, fun i u hu => ?_⟩
  match i, hu with
  | 0, hu => simp at hu; subst hu; exact ⟨_, _, rfl, by go_simp⟩
  | n + 1, hu => simp at hu
set_option maxHeartbeats 2000000 in
theorem awake_any (w : World) : Calls Try.prog 13 #[] w fun e w' => e = .returned (.bool true) ∧ Kp No w w' := by
  go_enter Try.func13, Try.ntmps13
  go_wp2_with fail
  refine (want_any _).mono ?_
  rintro e w1 ⟨g1, rfl, hr1, hk1⟩
  go_wp2_with fail
  refine (have_any _).mono ?_
  rintro e w2 ⟨g2, rfl, hr2, hk2⟩
  go_wp2_with fail
  refine (Best_any _ _ 2 3 2 3 wantV haveV 14 w2 (hr1.no hk2) hr2).mono ?_
  simp only [best14]
  rintro e w3 ⟨v3, rfl, ho3, hk3⟩
  obtain ⟨a3, c3, rfl, hc3, hi3⟩ := own_rdi ho3
  have K3 := Lib.hid (hk1.tr (hk2.tr hk3))
  have I3 := Lib.hid hi3
  clear hr1 hr2 hk1 hk2 hk3 ho3 hi3
  go_wp2_with fail
  refine (want_any _).mono ?_
  rintro e w4 ⟨g4, rfl, hr4, hk4⟩
  go_wp2_with fail
  refine (have_any _).mono ?_
  rintro e w5 ⟨g5, rfl, hr5, hk5⟩
  go_wp2_with fail
  refine (Best_any _ _ 2 3 2 3 wantV haveV 1 w5 (hr4.no hk5) hr5).mono ?_
  simp only [best1]
  rintro e w6 ⟨v6, rfl, ho6, hk6⟩
  obtain ⟨a6, c6, rfl, hc6, hi6⟩ := own_rdi ho6
  have I3b := Lib.hid (I3.out.no (hk4.tr (hk5.tr hk6)))
  have K6 := Lib.hid (K3.out.tr (hk4.tr (hk5.tr hk6)))
  have I6 := Lib.hid hi6
  clear hr4 hr5 hk4 hk5 hk6 ho6 hi6
  go_wp2_with fail
  refine (want_any _).mono ?_
  rintro e w7 ⟨g7, rfl, hr7, hk7⟩
  go_wp2_with fail
  refine (have_any _).mono ?_
  rintro e w8 ⟨g8, rfl, hr8, hk8⟩
  go_wp2_with fail
  refine (Cost_any _ _ 2 3 2 3 wantV haveV w8 (hr7.no hk8) hr8).mono ?_
  rintro e w9 ⟨c, rfl, _, hIs, hk9⟩
  have hc := isCost_canon _ c _ (nodup_addAll (-1) _ _ (nodup_addAll 1 _ [] (by simp [keys]))) (fun k hk => hk) (hIs chk0)
  replace hc := hc.trans cost0
  subst hc
  rw [chk0]
  have I9 := Lib.hid (I3b.out.no (hk7.tr (hk8.tr hk9)))
  have J9 := Lib.hid (I6.out.no (hk7.tr (hk8.tr hk9)))
  have K9 := Lib.hid (K6.out.tr (hk7.tr (hk8.tr hk9)))
  clear hr7 hr8 hk7 hk8 hk9 hIs
  go_wp2_with fail
  refine (same_any _ _ 2 2 c3 2 _ [0, 1] _ (I9.out.no (Kp.alloc _ _ _)) (rdi_new2 w9 0 1) (by omega)).mono ?_
  rw [show decide (List.map Int.ofNat [0, 1] = [0, 1]) = true from rfl]
  rintro e w10 ⟨rfl, hk10⟩
  go_wp2_with fail
  refine (same_any _ _ 1 1 c6 1 _ [0] _ ((J9.out.no ((Kp.alloc _ _ _).tr hk10)).no (Kp.alloc _ _ _)) (rdi_new1 w10 0) (by omega)).mono ?_
  rw [show decide (List.map Int.ofNat [0] = [0]) = true from rfl]
  rintro e w11 ⟨rfl, hk11⟩
  go_wp2_with fail
  go_ret
  exact ⟨rfl, K9.out.tr ((Kp.alloc _ _ _).tr (hk10.tr ((Kp.alloc _ _ _).tr hk11)))⟩
end Go.Proofs.Ytfflhlmnfhfcgaa
