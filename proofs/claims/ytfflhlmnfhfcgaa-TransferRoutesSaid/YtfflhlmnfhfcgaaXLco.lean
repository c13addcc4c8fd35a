/- Chapter 33: the walk of law 5 (TransferCosts). -/
import Derived.Test.YtfflhlmnfhfcgaaXMis
import Derived.Test.YtfflhlmnfhfcgaaXRfCost
import Derived.Test.YtfflhlmnfhfcgaaXAwkM
namespace Go.Proofs.Ytfflhlmnfhfcgaa
open Go.RowKit Go.Kq

/-- The cost of two lists. -/
def costV (xs ys : List Vc) : Int := if chk xs ys 24 = 0 then runC 0 0 0 (dif xs ys) else 0
theorem costV_ok {xs ys : List Vc} (h : chk xs ys 24 = 0) : costV xs ys = runC 0 0 0 (dif xs ys) := by unfold costV; rw [if_pos h]
theorem costV_bad {xs ys : List Vc} (h : chk xs ys 24 ≠ 0) : costV xs ys = 0 := by unfold costV; rw [if_neg h]
theorem cost_eq {xs ys : List Vc} {c : Int} (h : IsCost (btw xs ys) c) : c = runC 0 0 0 (dif xs ys) := by
  have hs : Srt (dif xs ys) := addL_srt _ _ (addL_srt _ _ trivial)
  rw [isCost_canon _ c (univ (xs ++ ys)) (nodup_addAll 1 _ [] (by simp [keys])) (fun k hk => ?_) h, isCost_canon _ _ (univ (xs ++ ys)) (nodup_addAll 1 _ [] (by simp [keys])) (fun k hk => ?_) (run_isCost _ hs), bal_dif]
  · rw [keys_asE] at hk
    obtain ⟨y, hy, rfl⟩ := List.mem_map.1 hk
    rw [mem_univ]
    rcases addL_mem _ _ y hy with ⟨x, hx, e⟩ | ⟨v, hv, e⟩
    · rcases addL_mem _ _ x hx with ⟨z, hz, _⟩ | ⟨z, hz, e2⟩
      · cases hz
      · exact ⟨z, by simp [hz], e2.trans e⟩
    · obtain ⟨u, hu, rfl⟩ := List.mem_map.1 hv
      exact ⟨u, by simp [hu], e⟩
  · rw [keys_btw] at hk
    rw [mem_univ]
    rcases hk with ⟨v, hv, e⟩ | ⟨v, hv, e⟩
    · exact ⟨v, by simp [hv], e⟩
    · exact ⟨v, by simp [hv], e⟩
theorem Cost2_any (A Y : Option Addr) (n m ca cb : Nat) (xs ys : List Vc) (w : World) (hx : RdV w A n xs) (hy : RdV w Y m ys) :
    Calls Try.prog 16 #[.slice A n ca, .slice Y m cb] w fun e w' => e = .returned (.tuple #[.int .i64 (costV xs ys), .int .i64 (chk xs ys 24)]) ∧ Kp No w w' :=
  (Cost_any A Y n m ca cb xs ys w hx hy).mono fun e w' ⟨c, he, h0, h1, hk⟩ => by
    by_cases h : chk xs ys 24 = 0
    · rw [costV_ok h, ← cost_eq (h1 h)]
      exact ⟨he, hk⟩
    · rw [costV_bad h, ← h0 h]
      exact ⟨he, hk⟩
set_option maxHeartbeats 1000000 in
theorem rCost2_any (A Y : Option Addr) (n m ca cb : Nat) (xs ys : List Vc) (w : World) (hx : RdV w A n xs) (hy : RdV w Y m ys) :
    Calls Try.prog 20 #[.slice A n ca, .slice Y m cb] w fun e w' => e = .returned (.tuple #[.int .i64 (costV xs ys), .int .i64 (chk xs ys 24)]) ∧ Kp No w w' := by
  by_cases he : chk xs ys 24 = 0
  · obtain ⟨z1, z2, z3, z4⟩ := chk_zero he
    have sx := bad_sane z3
    have sy := bad_sane z4
    have hxl := hx.1
    have hyl := hy.1
    clear z3 z4
    rw [costV_ok he, he]
    go_enter Try.func20, Try.ntmps20
    go_wp2_with fail
    refine (Check_any A Y n m ca cb xs ys 24 _ hx hy (by omega)).mono ?_
    rintro e w1 ⟨rfl, hk⟩
    rw [he]
    go_wp2_with fail
    refine (rcost_any A Y n m ca cb xs ys w1 (hx.no hk) (hy.no hk) (by omega) (by omega) sx sy).mono ?_
    rintro e w2 ⟨rfl, hk2⟩
    go_wp2_with fail
    refine bodyPost_ret (v := .tuple #[.int .i64 (runC 0 0 0 (dif xs ys)), .int .i64 0]) (by simp [results, Try.results20, go_sem]) rfl ⟨rfl, hk.tr hk2⟩
  · have heb : (chk xs ys 24 == 0) = false := by rw [beq_eq_false_iff_ne]; exact he
    rw [costV_bad he]
    clear he
    go_enter Try.func20, Try.ntmps20
    go_wp2_with fail
    refine (Check_any A Y n m ca cb xs ys 24 _ hx hy (by omega)).mono ?_
    rintro e w1 ⟨rfl, hk⟩
    go_wp2_with fail
    refine bodyPost_ret (v := .tuple #[.int .i64 0, .int .i64 (chk xs ys 24)]) (by simp [results, Try.results20, go_sem]) rfl ⟨rfl, hk⟩
theorem missV_len (xs ys : List Vc) : (missV xs ys).length ≤ 1000 := by
  unfold missV
  split
  · rename_i h
    obtain ⟨z1, z2, _, _⟩ := chk_zero h
    have h1 := addL_len (ys.map neg) (addL [] xs)
    have h2 := addL_len xs []
    have h3 := List.length_filter_le (fun v : Vc => decide (0 < v.q)) (dif xs ys)
    simp [dif] at h1 h2 h3 ⊢
    omega
  · simp
set_option maxHeartbeats 4000000 in
set_option maxRecDepth 100000 in
theorem tcosts_any (A Y : Option Addr) (n m ca cb : Nat) (xs ys : List Vc) (w : World) (hx : RdV w A n xs) (hy : RdV w Y m ys) :
    Calls Try.prog 5 #[.slice A n ca, .slice Y m cb] w fun e w' => e = .returned (.bool true) ∧ Kp No w w' := by
  have hl1 := missV_len xs []
  have hl2 := missV_len xs ys
  go_enter Try.func5, Try.ntmps5
  go_wp2_with fail
  refine (Profile_any A n ca xs _ hx).mono ?_
  rintro e w1 ⟨v1, rfl, ho1, hk1⟩
  go_wp2_with fail
  refine (rProfile_any A n ca xs _ (hx.no hk1)).mono ?_
  rintro e w2 ⟨v2, rfl, ho2, hk2⟩
  obtain ⟨a1, c1, rfl, _, r1⟩ := own_rd ho1
  obtain ⟨a2, c2, rfl, _, r2⟩ := own_rd ho2
  have R1 := Lib.hid (r1.no hk2)
  have R2 := Lib.hid r2
  have K2 := Lib.hid (hk1.tr hk2)
  clear ho1 ho2 r1 r2 hk1 hk2
  generalize missV xs [] = P at *
  go_wp2_with fail
  refine (sameC_any a1 a2 P.length P.length c1 c2 P P _ R1.out R2.out (by omega)).mono ?_
  rw [(eqL_iff P P).2 rfl]
  rintro e w3 ⟨rfl, hk3⟩
  have K3 := Lib.hid (K2.out.tr hk3)
  clear hk3
  go_wp2_with fail
  refine (Cost2_any A Y n m ca cb xs ys _ (hx.no K3.out) (hy.no K3.out)).mono ?_
  rintro e w4 ⟨rfl, hk4⟩
  have K4 := Lib.hid (K3.out.tr hk4)
  clear hk4
  go_wp2_with fail
  refine (rCost2_any A Y n m ca cb xs ys _ (hx.no K4.out) (hy.no K4.out)).mono ?_
  rintro e w5 ⟨rfl, hk5⟩
  have K5 := Lib.hid (K4.out.tr hk5)
  clear hk5
  go_wp2_with fail
  refine (Missing_any A Y n m ca cb xs ys _ (hx.no K5.out) (hy.no K5.out)).mono ?_
  rintro e w6 ⟨v6, rfl, ho6, hk6⟩
  have K6 := Lib.hid (K5.out.tr hk6)
  obtain ⟨a6, c6, rfl, _, r6⟩ := own_rd ho6
  have R6 := Lib.hid r6
  clear hk6 ho6 r6
  go_wp2_with fail
  refine (rMissing_any A Y n m ca cb xs ys _ (hx.no K6.out) (hy.no K6.out)).mono ?_
  rintro e w7 ⟨v7, rfl, ho7, hk7⟩
  obtain ⟨a7, c7, rfl, _, r7⟩ := own_rd ho7
  have R6b := Lib.hid (R6.out.no hk7)
  have R7 := Lib.hid r7
  have K7 := Lib.hid (K6.out.tr hk7)
  clear hk7 ho7 r7
  generalize missV xs ys = M at *
  go_wp2_with fail
  refine (sameC_any a6 a7 M.length M.length c6 c7 M M _ R6b.out R7.out (by omega)).mono ?_
  rw [(eqL_iff M M).2 rfl]
  rintro e w8 ⟨rfl, hk8⟩
  go_wp2_with fail
  refine (awake_any _).mono ?_
  rintro e w9 ⟨rfl, hk9⟩
  go_wp2_with fail
  go_ret
  exact ⟨rfl, K7.out.tr (hk8.tr hk9)⟩
end Go.Proofs.Ytfflhlmnfhfcgaa
