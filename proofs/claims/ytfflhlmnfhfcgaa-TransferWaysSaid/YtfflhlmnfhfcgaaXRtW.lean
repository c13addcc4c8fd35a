/- Chapter 33: what a pair of divisions costs (the statement's own function): the walk. -/
import Derived.Test.YtfflhlmnfhfcgaaXRtU
namespace Go.Proofs.Ytfflhlmnfhfcgaa
open Go.RowKit Go.Kq

set_option maxHeartbeats 4000000 in
set_option maxRecDepth 100000 in
theorem pair_any (A Y : Option Addr) (n m ca cb : Nat) (xs ys : List Vc) (f t : Int) (w : World) (hx : RdV w A n xs) (hy : RdV w Y m ys) (hk : chk xs ys 14 = 0) (hf : 0 ≤ f ∧ f ≤ 5) :
    Calls Try.prog 27 #[.slice A n ca, .slice Y m cb, .int .i64 f, .int .i64 t] w fun e w' => e = .returned (.tuple #[.int .i64 (cho xs ys f t).cost, .int .i64 0]) ∧ Kp No w w' := by
  obtain ⟨i1, hi1, hy0, hy1, hy2⟩ := info_parts info38
  obtain ⟨z1, z2, gx, gy⟩ := chk_zero hk
  have hxl := hx.1
  have hyl := hy.1
  have GX := Lib.hid gx
  have GY := Lib.hid gy
  clear gx gy hk
  have hn : n ≤ 24 := by omega
  have hm : m ≤ 14 := by omega
  go_enter Try.func27, Try.ntmps27
  go_wp2_with fail
  go_loopw [10, 12] (fun vv vi wr => ∃ k : Nat, k ≤ n ∧ vi = .int .i64 k ∧ wr.ownsRow w.heap.size 38 4 vv (pin xs f k).length (flat (pvo xs f f k)) ∧ Kp No w wr) (fun _ vi _ => n - (intOf vi).toNat)
  case atStart => exact ⟨0, by omega, rfl, ⟨rfl, .inl ⟨rfl, rfl⟩⟩, Kp.refl _ _⟩
  case round =>
    obtain ⟨k, hk, rfl, hov, hkp⟩ := hrel
    have HOV := Lib.hid hov
    clear hov
    have hpl := pin_le xs f k
    by_cases hltk : k < n
    · obtain ⟨v, hv⟩ : ∃ v, xs[k]? = some v := ⟨_, List.getElem?_eq_getElem (by omega)⟩
      obtain ⟨b, o, rfl, hb, c0, c1, c2, c3⟩ := (hx.no hkp).2 k v hv
      have HV := Lib.hid hv
      clear hv
      by_cases hbd : v.d = f
      · have hbt : (v.d == f) = true := by rw [beq_iff_eq]; exact hbd
        have HP := Lib.hid (pin_yes HV.out hbd)
        have HQ := Lib.hid (show pvo xs f f (k + 1) = pvo xs f f k ++ [v] by
          rw [pvo_yes HV.out hbd]
          unfold setD
          rw [← hbd])
        clear hbd
        generalize pin xs f k = L at *
        generalize pvo xs f f k = V at *
        obtain ⟨av, cv, rfl, _, _, _⟩ := own_form HOV.out
        go_wp2_with (at_builtin; refine stop_in ?_)
        refine stop_out ?_
        refine wpList_append_own_at _ rfl _ _ 22 rfl w.heap.size 38 i1 (.agg #[.int .i64 0, .int .i64 0, .int .i64 0, .int .i64 0]) 4 32 Try.underlying22 hi1 hy0 hy1 hy2 rfl (by decide) (.slice av L.length cv) L.length (flat V) rfl (HOV.out.alloc _) ⟨wr.heap.size, 0, none⟩ 1 1 v.cells4 rfl rfl (new4 wr v) (cells4_one _) (by unfold maxLen; omega) (by omega) (by have := hkp.size; simp; omega) ?_
        intro v2 w6 hown' hgrow hnil hat
        have hk6 : Kp No w w6 := kp_app hkp HOV.out (Nat.le_refl _) hgrow
        rw [← flat_snoc] at hown'
        have HOV6 := Lib.hid hown'
        clear hown' hgrow hnil hat
        go_wp2_with fail
        go_roundw
        case rel => exact ⟨k + 1, by omega, by go_num, by rw [HP.out, HQ.out, List.length_append]; exact HOV6.out, hk6⟩
        case measure => simp [intOf]; omega
      · have hbt : (v.d == f) = false := by rw [beq_eq_false_iff_ne]; exact hbd
        have HP := Lib.hid (pin_no HV.out hbd)
        have HQ := Lib.hid (pvo_no (a := f) HV.out hbd)
        clear hbd
        go_wp2_with fail
        go_roundw
        case rel => exact ⟨k + 1, by omega, by go_num, by rw [HP.out, HQ.out]; exact HOV.out, hkp⟩
        case measure => simp [intOf]; omega
    · obtain rfl : k = n := by omega
      have ho1 := HOV.out
      rw [← pvo_len xs f f k] at ho1
      obtain ⟨a1, c1, rfl, _, hr1⟩ := own_rdv ho1
      have HR1 := Lib.hid hr1
      clear ho1 hr1 HOV
      obtain ⟨W, hW⟩ : ∃ W, W = pvo xs f f k := ⟨_, rfl⟩
      rw [← hW] at HR1 ⊢
      have HW := Lib.hid hW
      clear hW
      go_wp2_with fail
      obtain ⟨wo, rfl⟩ : ∃ wo : World, wo = wr := ⟨_, rfl⟩
      go_loopw [11, 13] (fun vv vi wr => ∃ j : Nat, j ≤ m ∧ vi = .int .i64 j ∧ wr.ownsRow wo.heap.size 38 4 vv (pin ys t j).length (flat (pvo ys t f j)) ∧ Kp No wo wr) (fun _ vi _ => m - (intOf vi).toNat)
      case atStart => exact ⟨0, by omega, rfl, ⟨rfl, .inl ⟨rfl, rfl⟩⟩, Kp.refl _ _⟩
      case round =>
        obtain ⟨j, hj, rfl, hov, hkq⟩ := hrel
        have HOV := Lib.hid hov
        clear hov
        have hpl2 := pin_le ys t j
        have hkw := hkp.tr hkq
        by_cases hltj : j < m
        · obtain ⟨v, hv⟩ : ∃ v, ys[j]? = some v := ⟨_, List.getElem?_eq_getElem (by omega)⟩
          obtain ⟨b, o, rfl, hb, c0, c1, c2, c3⟩ := (hy.no hkw).2 j v hv
          have hvd := (bad_iff v).1 (GY.out v (List.mem_of_getElem? hv))
          have HV := Lib.hid hv
          clear hv
          by_cases hbd : v.d = t
          · have hbt : (v.d == t) = true := by rw [beq_iff_eq]; exact hbd
            have ht0 : 0 ≤ t := by omega
            have HP := Lib.hid (pin_yes HV.out hbd)
            have HQ := Lib.hid (pvo_yes (a := f) HV.out hbd)
            clear hbd hvd
            generalize pin ys t j = L at *
            generalize pvo ys t f j = V at *
            obtain ⟨av, cv, rfl, _, _, _⟩ := own_form HOV.out
            go_wp2_with (at_builtin; refine stop_in ?_)
            obtain ⟨wx, hwx⟩ : ∃ wx, wx = wr.alloc (.cells #[.int .i64 f, .int .i64 v.p, .int .i64 v.f, .int .i64 v.q] 38) := ⟨_, rfl⟩
            have hsx : wr.heap.size + 1 = wx.heap.size := by rw [hwx]; simp
            have hkx : Kp No wo wx := by rw [hwx]; exact hkq.tr (Kp.alloc _ _ _)
            have HOVX := Lib.hid (show wx.ownsRow wo.heap.size 38 4 (.slice av L.length cv) L.length (flat V) by rw [hwx]; exact HOV.out.alloc _)
            rw [← hwx, hsx]
            clear HOV hwx hsx c0 c1 c2 c3 hbt ht0
            refine stop_out ?_
            refine wpList_append_own_at _ rfl _ _ 22 rfl wo.heap.size 38 i1 (.agg #[.int .i64 0, .int .i64 0, .int .i64 0, .int .i64 0]) 4 32 Try.underlying22 hi1 hy0 hy1 hy2 rfl (by decide) (.slice av L.length cv) L.length (flat V) rfl (HOVX.out.alloc _) ⟨wx.heap.size, 0, none⟩ 1 1 (setD f v).cells4 rfl rfl (new4 wx (setD f v)) (cells4_one _) (by unfold maxLen; omega) (by omega) (by have := hkx.size; simp; omega) ?_
            intro v2 w6 hown' hgrow hnil hat
            have hk6 : Kp No wo w6 := kp_app hkx HOVX.out (Nat.le_refl _) hgrow
            rw [← flat_snoc] at hown'
            have HOV6 := Lib.hid hown'
            clear hown' hgrow hnil hat
            go_wp2_with fail
            go_roundw
            case rel => exact ⟨j + 1, by omega, by go_num, by rw [HP.out, HQ.out, List.length_append]; exact HOV6.out, hk6⟩
            case measure => simp [intOf]; omega
          · have hbt : (v.d == t) = false := by rw [beq_eq_false_iff_ne]; exact hbd
            have HP := Lib.hid (pin_no HV.out hbd)
            have HQ := Lib.hid (pvo_no (a := f) HV.out hbd)
            clear hbd
            go_wp2_with fail
            go_roundw
            case rel => exact ⟨j + 1, by omega, by go_num, by rw [HP.out, HQ.out]; exact HOV.out, hkq⟩
            case measure => simp [intOf]; omega
        · obtain rfl : j = m := by omega
          have ho2 := HOV.out
          rw [← pvo_len ys t f j] at ho2
          obtain ⟨a2, c2, rfl, _, hr2⟩ := own_rdv ho2
          have HR2 := Lib.hid hr2
          obtain ⟨out, c, hb, _, _, _⟩ := bst_facts (t := t) (by omega : xs.length ≤ 24) (by omega : ys.length ≤ 14) GX.out GY.out hf
          have HC := Lib.hid (show (cho xs ys f t).cost = c by unfold cho; rw [hb])
          rw [hxl, hyl, ← HW.out] at hb
          have HB := Lib.hid hb
          clear ho2 hr2 HOV hb
          go_wp2_with fail
          refine (Best_any a1 a2 _ _ c1 c2 W (pvo ys t f j) 14 wr (HR1.out.no hkq) HR2.out).mono ?_
          rw [HB.out]
          rintro e w7 ⟨v7, rfl, _, hk7⟩
          go_wp2_with fail
          go_ret2
          exact ⟨by rw [HC.out]; rfl, hkw.tr hk7⟩
end Go.Proofs.Ytfflhlmnfhfcgaa
