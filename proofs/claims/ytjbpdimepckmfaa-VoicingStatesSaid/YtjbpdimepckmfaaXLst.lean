/- Chapter 27: the law of VoicingStates. -/
import Derived.Test.YtjbpdimepckmfaaXDfw
import Derived.Test.YtjbpdimepckmfaaXLsa
namespace Go.Proofs.Ytjbpdimepckmfaa
open Go.RowKit Go.Kq

theorem stRes_few {l : List Wk} {s : List Pv} (h : StRes l s) : s.length ≤ 400 := by
  unfold StRes at h
  by_cases h1 : chkL l = 0
  · rw [if_pos h1] at h
    exact Nat.le_trans (isSt_len h) (cws_few (rec_of h1))
  · rw [if_neg h1] at h
    rw [h]
    simp
theorem undV_few (l : List Wk) : (undV l).length ≤ 400 := by
  by_cases h : chkL l = 0
  · rw [undV_ok h, undL_len]
    exact (rec_of h).len
  · rw [undV_no h]
    simp
set_option maxHeartbeats 4000000 in
set_option maxRecDepth 100000 in
theorem tstates_any (A : Option Addr) (n ca : Nat) (a : List Wk) (B : Option Addr) (m cb : Nat) (b : List Wk) (w : World) (hx : RdW w A n a) (fa : Fits a) (ha : n ≤ ca) (hy : RdW w B m b) (fb : Fits b) (hb : m ≤ cb) :
    Calls Try.prog 6 #[.slice A n ca, .slice B m cb] w fun e w' => e = .returned (.bool true) ∧ Kp No w w' := by
  have HUA := Lib.hid (fun w' (k : Kp No w w') => Undone_any A n ca a w' (hx.no k) fa)
  have HUR := Lib.hid (fun w' (k : Kp No w w') => rUndone_any A n ca a w' (hx.no k) fa ha)
  have HSA := Lib.hid (fun w' (k : Kp No w w') => State_any A n ca a w' (hx.no k) fa)
  have HSR := Lib.hid (fun w' (k : Kp No w w') => rState_any A n ca a w' (hx.no k) fa ha)
  have HDA := Lib.hid (fun w' (k : Kp No w w') => Differ_any A n ca a B m cb b w' (hx.no k) (hy.no k) fa fb)
  have HDR := Lib.hid (fun w' (k : Kp No w w') => rDiffer_any A n ca a B m cb b w' (hx.no k) (hy.no k) fa fb ha hb)
  have F1 := Lib.hid (undV_few a)
  have HUS := Lib.hid (fun s t (h1 : StRes a s) (h2 : StRes a t) => (stRes_uniq h1 h2 : s = t))
  have HUF := Lib.hid (fun s (h1 : StRes a s) => stRes_few h1)
  have HUD := Lib.hid (fun s t (h1 : DifF a b s) (h2 : DifF a b t) => (difF_uniq h1 h2 : s = t))
  clear hx hy fa fb
  generalize chkL a = c at HUA HUR HSA HSR
  generalize bothE a b = c2 at HDA HDR
  generalize undV a = U at HUA HUR F1
  generalize hSR : StRes a = SR at HSA HSR HUS HUF
  generalize hDF : DifF a b = DF at HDA HDR HUD
  clear hSR hDF
  obtain ⟨un, hun⟩ : ∃ un, un = U.length := ⟨_, rfl⟩
  rw [← hun] at HUA HUR F1
  have HUN := Lib.hid hun
  have hu4 : un ≤ 400 := F1.out
  clear hun F1
  go_enter Try.func6, Try.ntmps6
  go_wp2_with fail
  with_reducible refine (HUA.out w (Kp.refl _ _)).mono ?_
  rintro e w1 ⟨v1, rfl, ho1, hk1⟩
  obtain ⟨A1, c1, rfl, _, _, hA1⟩ := own_form ho1
  have HO1 := Lib.hid ho1
  have HA1 := Lib.hid hA1
  clear ho1 hA1
  go_wp2_with fail
  with_reducible refine (HUR.out w1 hk1).mono ?_
  rintro e w2 ⟨v2, rfl, ho2, hk12⟩
  obtain ⟨A2, c3, rfl, _, _, hA2⟩ := own_form ho2
  have HO2 := Lib.hid ho2
  have HA2 := Lib.hid hA2
  have HO1' := Lib.hid (hk12.owns HO1.out fun _ _ h => h)
  have hk2 := hk1.tr hk12
  have HK2 := Lib.hid hk2
  clear ho2 hA2 HO1 hk1 hk12 hk2
  go_wp2_with fail
  go_loopw [9] (fun vi wr => ∃ i : Nat, i ≤ un ∧ vi = .int .i64 i ∧ Kp No w2 wr) (fun vi _ => un - (intOf vi).toNat)
  case atStart => exact ⟨0, by omega, rfl, Kp.refl _ _⟩
  case round =>
    obtain ⟨i, hi, rfl, hkp⟩ := hrel
    by_cases hlt : i < un
    · obtain ⟨g1, rfl⟩ := HA1.out (by omega)
      obtain ⟨g2, rfl⟩ := HA2.out (by omega)
      obtain ⟨q, hq⟩ : ∃ q, U[i]? = some q := ⟨_, List.getElem?_eq_getElem (by rw [← HUN.out]; omega)⟩
      have d1 : wr.cell? ⟨g1, i, none⟩ = some (.bool q) := own_cell (hkp.owns HO1'.out fun _ _ h => h) (by rw [List.getElem?_map, hq]; rfl)
      have d2 : wr.cell? ⟨g2, i, none⟩ = some (.bool q) := own_cell (hkp.owns HO2.out fun _ _ h => h) (by rw [List.getElem?_map, hq]; rfl)
      have hcast : (i : Int) < (un : Int) := by omega
      clear hq
      cases q
      all_goals
        go_wp2_with fail
        go_quiet (fail)
        go_wp2_with fail
        go_roundw
        case rel => exact ⟨i + 1, by omega, by go_num, hkp.tr (Kp.drewN _ _ _)⟩
        case measure => simp [intOf]; omega
    · obtain rfl : i = un := by omega
      have hk3 := HK2.out.tr hkp
      obtain ⟨wo, rfl⟩ : ∃ wo : World, wo = wr := ⟨_, rfl⟩
      clear hkp HO1' HO2
      go_wp2_with fail
      with_reducible refine (HSA.out wo hk3).mono ?_
      rintro e w4 ⟨v4, s4, rfl, hs4, ho4, hk34⟩
      have hk4 := hk3.tr hk34
      obtain ⟨A4, c4, rfl, hr4⟩ := own_rdP ho4
      have HR4 := Lib.hid hr4
      have HS4 := Lib.hid hs4
      clear ho4 hr4 hs4 hk34 hk3
      go_wp2_with fail
      with_reducible refine (HSR.out w4 hk4).mono ?_
      rintro e w5 ⟨v5, s5, rfl, hs5, ho5, hk45⟩
      have hk5 := hk4.tr hk45
      obtain rfl := HUS.out _ _ hs5 HS4.out
      obtain ⟨A5, c5, rfl, hr5⟩ := own_rdP ho5
      have HR5 := Lib.hid hr5
      have HR45 := Lib.hid (HR4.out.no hk45)
      have hs400 := HUF.out s5 hs5
      clear ho5 hr5 hs5 hk45 hk4 HR4 HS4
      go_wp2_with fail
      with_reducible refine (HDA.out w5 hk5).mono ?_
      rintro e w6 ⟨v6, s6, rfl, hs6, ho6, hk56⟩
      have hk6 := hk5.tr hk56
      obtain ⟨A6, c6, rfl, hcap6, hm6, hA6⟩ := own_form ho6
      have HO6 := Lib.hid ho6
      have HS6 := Lib.hid hs6
      have HA6 := Lib.hid hA6
      have HR46 := Lib.hid (HR45.out.no hk56)
      have HR56 := Lib.hid (HR5.out.no hk56)
      unfold maxLen at hm6
      clear ho6 hs6 hA6 hk56 hk5 HR45 HR5
      go_wp2_with fail
      with_reducible refine (HDR.out w6 hk6).mono ?_
      rintro e w7 ⟨v7, s7, rfl, hs7, ho7, hk67⟩
      have hk7 := hk6.tr hk67
      obtain rfl := HUD.out _ _ hs7 HS6.out
      obtain ⟨A7, c7, rfl, _, _, hA7⟩ := own_form ho7
      have HO7 := Lib.hid ho7
      have HA7 := Lib.hid hA7
      have HO67 := Lib.hid (hk67.owns HO6.out fun _ _ h => h)
      have HR47 := Lib.hid (HR46.out.no hk67)
      have HR57 := Lib.hid (HR56.out.no hk67)
      obtain ⟨dn, hdn⟩ : ∃ dn, dn = s7.length := ⟨_, rfl⟩
      rw [← hdn] at HO67 HO7 HA6 HA7 hcap6 ⊢
      have HDN := Lib.hid hdn
      clear ho7 hs7 hA7 hk67 hk6 HR46 HR56 HO6 HS6 hdn
      go_wp2_with fail
      with_reducible refine (sameS_any A4 A5 s5.length s5.length c4 c5 s5 s5 w7 HR47.out HR57.out (by omega)).mono ?_
      rw [decide_eq_true (rfl : s5 = s5)]
      rintro e w8 ⟨rfl, hk78⟩
      have hk8 := hk7.tr hk78
      have HP6 := Lib.hid (hk78.owns HO67.out fun _ _ h => h)
      have HP7 := Lib.hid (hk78.owns HO7.out fun _ _ h => h)
      have HK8 := Lib.hid hk8
      clear hk78 hk7 hk8 HO67 HO7 HR47 HR57
      go_wp2_with fail
      go_loopw [16] (fun vi wr => ∃ i : Nat, i ≤ dn ∧ vi = .int .i64 i ∧ Kp No w8 wr) (fun vi _ => dn - (intOf vi).toNat)
      case atStart => exact ⟨0, by omega, rfl, Kp.refl _ _⟩
      case round =>
        obtain ⟨k, hk, rfl, hkp⟩ := hrel
        by_cases hlt2 : k < dn
        · obtain ⟨g6, rfl⟩ := HA6.out (by omega)
          obtain ⟨g7, rfl⟩ := HA7.out (by omega)
          obtain ⟨p, hp⟩ : ∃ p, s7[k]? = some p := ⟨_, List.getElem?_eq_getElem (by rw [← HDN.out]; omega)⟩
          have hc6 := row_at pp_len (hkp.owns HP6.out fun _ _ h => h) (by decide) hp
          have hc7 := row_at pp_len (hkp.owns HP7.out fun _ _ h => h) (by decide) hp
          have d0 : wr.cell? ⟨g6, k * 2, none⟩ = some (.int .i64 p.1) := hc6 0 _ rfl
          have d1 : wr.cell? ⟨g6, k * 2 + 1, none⟩ = some (.int .i64 p.2) := hc6 1 _ rfl
          have s0 : wr.cell? ⟨g7, k * 2, none⟩ = some (.int .i64 p.1) := hc7 0 _ rfl
          have s1 : wr.cell? ⟨g7, k * 2 + 1, none⟩ = some (.int .i64 p.2) := hc7 1 _ rfl
          have HE := fun w' => pp_equal w' p p
          rw [decide_eq_true (rfl : p = p)] at HE
          simp only [ep] at HE
          have hcast : (k : Int) < (dn : Int) := by omega
          clear hp hc6 hc7
          go_wp2_with fail
          go_quiet (fail)
          go_wp2_with fail
          go_roundw
          case rel => exact ⟨k + 1, by omega, by go_num, hkp.tr (Kp.drewN _ _ _)⟩
          case measure => simp [intOf]; omega
        · obtain rfl : k = dn := by omega
          have hk9 := HK8.out.tr hkp
          go_wp2_with fail
          with_reducible refine (awake_any wr).mono ?_
          rintro e wa ⟨rfl, hka⟩
          go_wp2_with fail
          go_ret
          exact ⟨rfl, hk9.tr hka⟩
end Go.Proofs.Ytjbpdimepckmfaa
