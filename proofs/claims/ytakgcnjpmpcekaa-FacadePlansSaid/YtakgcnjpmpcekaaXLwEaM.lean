/- Chapter 24: the law Plans: the walk. · Chapter 24: the law's ends. -/
import Derived.Test.YtakgcnjpmpcekaaXRfI
import Derived.Test.YtakgcnjpmpcekaaXFeA
namespace Go.Proofs.Ytakgcnjpmpcekaa
open Go.RowKit Go.Kq

set_option maxHeartbeats 4000000 in
theorem far_any (A R : Option Addr) (n ca m cr : Nat) (w : World) : Calls Try.prog 12 #[.slice A n ca, .slice R m cr, .int .i64 7, .int .i64 16] w fun e w' => ((e = .returned (.bool true)) ∨ (e = .returned (.bool false) ∧ (n ≤ 7 ∨ (12 < n ∧ n ≤ 20)) ∧ (m ≤ 16 ∨ (60 < m ∧ m ≤ 70)))) ∧ w' = w := by
  by_cases h1 : 7 < n
  · by_cases h2 : n ≤ 12
    · go_enter Try.func12, Try.ntmps12
      go_wp2_with fail
      go_ret
      exact ⟨.inl (ret_bool (by simp <;> omega)), rfl⟩
    · by_cases h3 : 20 < n
      · go_enter Try.func12, Try.ntmps12
        go_wp2_with fail
        go_ret
        exact ⟨.inl (ret_bool (by simp <;> omega)), rfl⟩
      · by_cases h4 : 16 < m
        · by_cases h5 : m ≤ 60
          · go_enter Try.func12, Try.ntmps12
            go_wp2_with fail
            go_ret
            exact ⟨.inl (ret_bool (by simp <;> omega)), rfl⟩
          · by_cases h6 : 70 < m
            · go_enter Try.func12, Try.ntmps12
              go_wp2_with fail
              go_ret
              exact ⟨.inl (ret_bool (by simp <;> omega)), rfl⟩
            · go_enter Try.func12, Try.ntmps12
              go_wp2_with fail
              go_ret
              exact ⟨.inr ⟨ret_bool (by simp <;> omega), by omega, by omega⟩, rfl⟩
        · have h6 : ¬ 70 < m := by omega
          go_enter Try.func12, Try.ntmps12
          go_wp2_with fail
          go_ret
          exact ⟨.inr ⟨ret_bool (by simp <;> omega), by omega, by omega⟩, rfl⟩
  · have h3 : ¬ 20 < n := by omega
    by_cases h4 : 16 < m
    · by_cases h5 : m ≤ 60
      · go_enter Try.func12, Try.ntmps12
        go_wp2_with fail
        go_ret
        exact ⟨.inl (ret_bool (by simp <;> omega)), rfl⟩
      · by_cases h6 : 70 < m
        · go_enter Try.func12, Try.ntmps12
          go_wp2_with fail
          go_ret
          exact ⟨.inl (ret_bool (by simp <;> omega)), rfl⟩
        · go_enter Try.func12, Try.ntmps12
          go_wp2_with fail
          go_ret
          exact ⟨.inr ⟨ret_bool (by simp <;> omega), by omega, by omega⟩, rfl⟩
    · have h6 : ¬ 70 < m := by omega
      go_enter Try.func12, Try.ntmps12
      go_wp2_with fail
      go_ret
      exact ⟨.inr ⟨ret_bool (by simp <;> omega), by omega, by omega⟩, rfl⟩
theorem plnL_len (l : List Fc) (r : List Int) (least : Int) (h : plnE l r least = 0) : ∀ S ∈ intP (plnL l r least), S.length ≤ 100000 := fun S hS => by
  have hc : chkF l = 0 := by
    apply Classical.byContradiction
    intro hc
    unfold plnE at h
    rw [if_pos hc] at h
    exact hc h
  have hp : pipE r = 0 := by
    apply Classical.byContradiction
    intro hp
    unfold plnE at h
    rw [if_neg (fun x => x hc), if_pos hp] at h
    exact hp h
  have ho : oB least 0 10000000 = false := by
    cases ho : oB least 0 10000000
    · rfl
    · unfold plnE at h
      rw [if_neg (fun x => x hc), if_neg (fun x => x hp), ho] at h
      simp at h
  have hb : (bstN l r least ((l.length + 1) / 2) 0).2 = true := by
    cases hb : (bstN l r least ((l.length + 1) / 2) 0).2
    · unfold plnE at h
      rw [if_neg (fun x => x hc), if_neg (fun x => x hp), ho, hb] at h
      exact absurd h (by decide)
    · rfl
  have hlb : 0 ≤ least ∧ least ≤ 10000000 := by unfold oB at ho; simp at ho; omega
  have hv := gr_val l r least (chk_ok hc).2.2 hlb.1 hlb.2 hb
  have hd : dvN l.length r.length ((l.length + 1) / 2) 0 (grN l r least (bstN l r least ((l.length + 1) / 2) 0).1 ((l.length + 1) / 2) 0) = true := by
    cases hd : dvN l.length r.length ((l.length + 1) / 2) 0 (grN l r least (bstN l r least ((l.length + 1) / 2) 0).1 ((l.length + 1) / 2) 0)
    · rw [refV_false hd] at hv
      cases hv
    · rfl
  unfold plnL at hS
  rw [if_pos h, std_plan] at hS
  have := (plan_in hd (pip_ok hp).1 S hS).1
  omega
set_option maxHeartbeats 8000000 in
set_option maxRecDepth 100000 in
theorem Plans_any (A R : Option Addr) (n ca m cr : Nat) (l : List Fc) (r : List Int) (least : Int) (w : World) (hA : RdF w A n l) (hR : RdI .i64 w R m r) :
    Calls Try.prog 4 #[.slice A n ca, .slice R m cr, .int .i64 least] w fun e w' => e = .returned (.bool true) ∧ Kp No w w' := by
  have HA := Lib.hid hA
  have HR := Lib.hid hR
  clear hA hR
  go_enter Try.func4, Try.ntmps4
  go_wp2_with fail
  refine (far_any _ _ _ _ _ _ _).mono ?_
  rintro e w1 ⟨rfl | ⟨rfl, hn, hm⟩, hw1⟩
  · subst hw1
    go_wp2_with fail
    refine (awake_any _).mono ?_
    rintro e w4 ⟨rfl, k4⟩
    go_wp2_with fail
    go_ret
    exact ⟨rfl, k4⟩
  subst hw1
  have P1 := Lib.hid (fun w0 (k : Kp No w1 w0) => Plan_any A R n ca m cr l r least w0 (HA.out.no k) (HR.out.no k) (by omega) (by omega))
  have P2 := Lib.hid (fun w0 (k : Kp No w1 w0) => rPlan_any A R n ca m cr l r least w0 (HA.out.no k) (HR.out.no k) (by omega) (fun h => by have h1 := (chk_ok h).1; have h2 := HA.out.1; omega) (fun h => by have h1 := (pip_ok h).1; have h2 := HR.out.1; omega))
  have C1 := Lib.hid (fun w0 (k : Kp No w1 w0) => Check_any A n ca l w0 (HA.out.no k) (by omega))
  have C2 := Lib.hid (fun w0 (k : Kp No w1 w0) => rCheck_any A n ca l w0 (HA.out.no k))
  have HLN := Lib.hid (plnL_len l r least)
  have HAL := Lib.hid HA.out.1
  have hn20 : n ≤ 20 := by omega
  generalize chkF l = ce at *
  have d1 : (ce == ce) = true := by simp
  have d2 : (plnE l r least == plnE l r least) = true := by simp
  clear hn hm
  go_wp2_with fail
  refine (P1.out _ (Kp.refl _ _)).mono ?_
  rintro e w2 ⟨k2, h2⟩
  have HK2 := Lib.hid k2
  rcases h2 with ⟨hE, rfl⟩ | ⟨hE, g2, rfl, hr2⟩
  · clear k2
    go_wp2_with fail
    refine (P2.out _ HK2.out).mono ?_
    rintro e w3 ⟨k3, ⟨_, rfl⟩ | ⟨h0, _⟩⟩
    rotate_left
    · exact absurd h0 hE
    have HK3 := Lib.hid (HK2.out.tr k3)
    clear k3
    go_wp2_with fail
    refine (C1.out _ HK3.out).mono ?_
    rintro e w4 ⟨rfl, k4⟩
    have HK4 := Lib.hid (HK3.out.tr k4)
    clear k4
    go_wp2_with fail
    refine (C2.out _ HK4.out).mono ?_
    rintro e w5 ⟨rfl, k5⟩
    have HK5 := Lib.hid (HK4.out.tr k5)
    clear k5
    go_wp2_with fail
    have SS := samePlan_any none none 0 0 0 0 0 0 [] [] w5 (by omega) (by omega) (fun x h => by simp at h) (fun x h => by simp at h) ⟨rfl, fun i S h => by simp at h⟩ ⟨rfl, fun i S h => by simp at h⟩
    rw [show decide (([] : List (List Int)) = []) = true from rfl] at SS
    refine SS.mono ?_
    clear SS
    rintro e w6 ⟨rfl, q6, hw6⟩
    have HK6 := Lib.hid (show Kp No w1 w6 by rw [hw6]; exact HK5.out.tr (Kp.drewN No _ _))
    clear hw6
    go_wp2_with fail
    refine (awake_any _).mono ?_
    rintro e w7 ⟨rfl, k7⟩
    go_wp2_with fail
    go_ret
    exact ⟨rfl, HK6.out.tr k7⟩
  · have HR2 := Lib.hid hr2
    have HL := Lib.hid (HLN.out hE)
    rw [hE] at d2
    clear k2 hr2
    go_wp2_with fail
    refine (P2.out _ HK2.out).mono ?_
    rintro e w3 ⟨k3, ⟨h0, _⟩ | ⟨_, g3, rfl, hr3⟩⟩
    · exact absurd hE h0
    have HR3 := Lib.hid hr3
    replace HR2 := Lib.hid (HR2.out.no k3)
    have HK3 := Lib.hid (HK2.out.tr k3)
    clear k3 hr3 hE
    rw [HAL.out] at *
    go_wp2_with fail
    refine (C1.out _ HK3.out).mono ?_
    rintro e w4 ⟨rfl, k4⟩
    replace HR2 := Lib.hid (HR2.out.no k4)
    replace HR3 := Lib.hid (HR3.out.no k4)
    have HK4 := Lib.hid (HK3.out.tr k4)
    clear k4
    go_wp2_with fail
    refine (C2.out _ HK4.out).mono ?_
    rintro e w5 ⟨rfl, k5⟩
    replace HR2 := Lib.hid (HR2.out.no k5)
    replace HR3 := Lib.hid (HR3.out.no k5)
    have HK5 := Lib.hid (HK4.out.tr k5)
    clear k5
    go_wp2_with fail
    have SS := samePlan_any (some ⟨g2, 0, none⟩) (some ⟨g3, 0, none⟩) n n n n _ _ (intP (plnL l r least)) (intP (plnL l r least)) w5 (by omega) (by omega) HL.out HL.out HR2.out.rd HR3.out.rd
    rw [show decide (intP (plnL l r least) = intP (plnL l r least)) = true from decide_eq_true rfl] at SS
    refine SS.mono ?_
    clear SS
    rintro e w6 ⟨rfl, q6, hw6⟩
    have HK6 := Lib.hid (show Kp No w1 w6 by rw [hw6]; exact HK5.out.tr (Kp.drewN No _ _))
    clear hw6
    go_wp2_with fail
    refine (awake_any _).mono ?_
    rintro e w7 ⟨rfl, k7⟩
    go_wp2_with fail
    go_ret
    exact ⟨rfl, HK6.out.tr k7⟩
end Go.Proofs.Ytakgcnjpmpcekaa

namespace Go.Proofs.Ytakgcnjpmpcekaa
open Go.RowKit Go.Kq

def rowV (W b z : Int) (R : Option Addr) (m cr : Nat) : Value := .agg #[.int .i64 W, .int .i64 b, .int .i64 z, .slice R m cr]
set_option maxHeartbeats 4000000 in
theorem ends_yes (W b z g : Int) (R A : Option Addr) (m cr ca : Nat) (r x : List Int) (x0 y0 xn yn : Int) (w : World) (hm : 0 < m) (hm2 : m ≤ 60) (hR : RdI .i64 w R m r) (hA : RdI .i64 w A m x) (h1 : x[0]? = some x0) (h2 : r[0]? = some y0) (h3 : x[m - 1]? = some xn) (h4 : r[m - 1]? = some yn)
    (hW : 0 ≤ W ∧ W ≤ 10000000) (b1 : 0 ≤ x0 ∧ x0 ≤ 10000000) (b2 : 0 ≤ y0 ∧ y0 ≤ 10000000) (b3 : 0 ≤ xn ∧ xn ≤ 10000000) (_b4 : 0 ≤ yn ∧ yn ≤ 10000000) (hg : g ≤ x0 - y0) (hl : x0 - y0 ≤ W - xn - yn) (hr : W - xn - yn - (x0 - y0) ≤ 1) :
    Calls Try.prog 28 #[rowV W b z R m cr, .int .i64 g, .slice A m ca] w fun e w' => e = .returned (.bool true) ∧ Kp No w w' := by
  have hk : Kp No w (w.alloc (.cells #[.int .i64 W, .int .i64 b, .int .i64 z, .slice R m cr] 54)) := Kp.alloc _ _ _
  have p0 : (w.alloc (.cells #[.int .i64 W, .int .i64 b, .int .i64 z, .slice R m cr] 54)).cell? ⟨w.heap.size, 0, none⟩ = some (.int .i64 W) := by go_simp
  have p3 : (w.alloc (.cells #[.int .i64 W, .int .i64 b, .int .i64 z, .slice R m cr] 54)).cell? ⟨w.heap.size, 3, none⟩ = some (.slice R m cr) := by go_simp
  obtain ⟨o1, q1, rfl, _, c1⟩ := (hA.no hk).2 0 x0 h1
  obtain ⟨o2, q2, rfl, _, c2⟩ := (hR.no hk).2 0 y0 h2
  obtain ⟨o3, q3, e3, _, c3⟩ := (hA.no hk).2 (m - 1) xn h3
  obtain ⟨o4, q4, e4, _, c4⟩ := (hR.no hk).2 (m - 1) yn h4
  injection e3 with e3
  injection e3 with e3a e3b
  injection e4 with e4
  injection e4 with e4a e4b
  subst e3a e3b e4a e4b
  rw [Nat.add_zero] at c1 c2
  obtain ⟨k, hkm⟩ : ∃ k, k = m - 1 := ⟨_, rfl⟩
  rw [← hkm] at c3 c4
  have hki : (m : Int) - 1 = (k : Int) := by omega
  have hkl : k < m := by omega
  have HK := Lib.hid hk
  clear hkm h1 h2 h3 h4 hR hA hk
  unfold rowV
  generalize hw0 : w.alloc (.cells #[.int .i64 W, .int .i64 b, .int .i64 z, .slice (some ⟨o2, q2, none⟩) m cr] 54) = w0 at *
  go_enter Try.func28, Try.ntmps28
  go_wp2_with fail
  go_quiet (fail)
  go_wp2_with fail
  go_ret
  refine ⟨ret_bool ?_, HK.out.tr (Kp.drewN No _ _)⟩
  simp
end Go.Proofs.Ytakgcnjpmpcekaa
