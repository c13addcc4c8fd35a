/- Chapter 33: the reference's in and divisions: walks. -/
import Derived.Test.YtfflhlmnfhfcgaaXRtU
namespace Go.Proofs.Ytfflhlmnfhfcgaa
open Go.RowKit Go.Kq

set_option maxHeartbeats 4000000 in
set_option maxRecDepth 100000 in
theorem rin_any (A : Option Addr) (n ca : Nat) (xs : List Vc) (d a : Int) (w : World) (hx : RdV w A n xs) (hn : n ≤ 100) :
    Calls Try.prog 65 #[.slice A n ca, .int .i64 d, .int .i64 a] w fun e w' => ∃ v u, e = .returned (.tuple #[v, u]) ∧ w'.ownsRow w.heap.size 38 4 v (pin xs d n).length (flat (pvo xs d a n)) ∧ w'.ownsRow w.heap.size 3 1 u (pin xs d n).length ((pin xs d n).map natV) ∧ Kp No w w' := by
  obtain ⟨i0, hi0, hz0, hz1, hz2⟩ := info_parts info3
  obtain ⟨i1, hi1, hy0, hy1, hy2⟩ := info_parts info38
  have hxl := hx.1
  go_enter Try.func65, Try.ntmps65
  go_wp2_with fail
  go_loopw [8, 9, 10] (fun vv vl vi wr => ∃ k : Nat, k ≤ n ∧ vi = .int .i64 k ∧ wr.ownsRow w.heap.size 38 4 vv (pin xs d k).length (flat (pvo xs d a k)) ∧ wr.ownsRow w.heap.size 3 1 vl (pin xs d k).length ((pin xs d k).map natV) ∧ Kp No w wr) (fun _ _ vi _ => n - (intOf vi).toNat)
  case atStart => exact ⟨0, by omega, rfl, ⟨rfl, .inl ⟨rfl, rfl⟩⟩, ⟨rfl, .inl ⟨rfl, rfl⟩⟩, Kp.refl _ _⟩
  case round =>
    obtain ⟨k, hk, rfl, hov, hol, hkp⟩ := hrel
    have HOL := Lib.hid hol
    have HOV := Lib.hid hov
    clear hol hov
    by_cases hltk : k < n
    · obtain ⟨v, hv⟩ : ∃ v, xs[k]? = some v := ⟨_, List.getElem?_eq_getElem (by omega)⟩
      obtain ⟨b, o, rfl, hb, c0, c1, c2, c3⟩ := (hx.no hkp).2 k v hv
      have HV := Lib.hid hv
      clear hv
      have hpl := pin_le xs d k
      by_cases hbd : v.d = d
      · have hbt : (v.d == d) = true := by rw [beq_iff_eq]; exact hbd
        have HP := Lib.hid (pin_yes HV.out hbd)
        have HQ := Lib.hid (pvo_yes (a := a) HV.out hbd)
        clear hbd
        generalize pin xs d k = L at *
        generalize pvo xs d a k = V at *
        obtain ⟨al, cl, rfl, _, _, _⟩ := own_form HOL.out
        obtain ⟨av, cv, rfl, _, _, _⟩ := own_form HOV.out
        go_wp2_with (at_builtin; refine stop_in ?_)
        obtain ⟨wx, hwx⟩ : ∃ wx, wx = wr.alloc (.cells #[.int .i64 a, .int .i64 v.p, .int .i64 v.f, .int .i64 v.q] 38) := ⟨_, rfl⟩
        have hsx : wr.heap.size + 1 = wx.heap.size := by rw [hwx]; simp
        have hkx : Kp No w wx := by rw [hwx]; exact hkp.tr (Kp.alloc _ _ _)
        have HOLX := Lib.hid (show wx.ownsRow w.heap.size 3 1 (.slice al L.length cl) L.length (L.map natV) by rw [hwx]; exact HOL.out.alloc _)
        have HOVX := Lib.hid (show wx.ownsRow w.heap.size 38 4 (.slice av L.length cv) L.length (flat V) by rw [hwx]; exact HOV.out.alloc _)
        rw [← hwx, hsx]
        clear HOL HOV hwx hsx c0 c1 c2 c3 hbt
        refine stop_out ?_
        refine wpList_append_own_at _ rfl _ _ 22 rfl w.heap.size 38 i1 (.agg #[.int .i64 0, .int .i64 0, .int .i64 0, .int .i64 0]) 4 32 Try.underlying22 hi1 hy0 hy1 hy2 rfl (by decide) (.slice av L.length cv) L.length (flat V) rfl (HOVX.out.alloc _) ⟨wx.heap.size, 0, none⟩ 1 1 (setD a v).cells4 rfl rfl (new4 wx (setD a v)) (cells4_one _) (by unfold maxLen; omega) (by omega) (by have := hkx.size; simp; omega) ?_
        intro v2 w6 hown' hgrow hnil hat
        have hk6 : Kp No w w6 := kp_app hkx HOVX.out (Nat.le_refl _) hgrow
        have hol6 := own_app HOVX.out HOLX.out (by decide) hgrow
        rw [← flat_snoc] at hown'
        have HOL6 := Lib.hid hol6
        have HOV6 := Lib.hid hown'
        clear hown' hgrow hnil hat hol6
        go_wp2_with (at_builtin; refine stop_in ?_)
        refine stop_out ?_
        refine wpList_append_own_at _ rfl _ _ 23 rfl w.heap.size 3 i0 (.int .i64 0) 1 8 Try.underlying23 hi0 hz0 hz1 hz2 rfl (by decide) (.slice al L.length cl) L.length (L.map natV) rfl (HOL6.out.alloc (.cells #[.int .i64 k] 3)) ⟨w6.heap.size, 0, none⟩ 1 1 [.int .i64 k] rfl rfl (cell_one_new w6 _ _) (ints_oneCell .i64 [(k : Int)]) (by unfold maxLen; omega) (by omega) (by have := hk6.size; simp; omega) ?_
        intro v' w7 hown' hgrow hnil hat
        have hk7 : Kp No w w7 := kp_app hk6 HOL6.out (Nat.le_refl _) hgrow
        have hov7 := own_app HOL6.out HOV6.out (by decide) hgrow
        have HOL7 := Lib.hid hown'
        have HOV7 := Lib.hid hov7
        clear hown' hgrow hnil hat hov7
        go_wp2_with fail
        go_roundw
        case rel => exact ⟨k + 1, by omega, by go_num, by rw [HP.out, HQ.out, List.length_append]; exact HOV7.out, by rw [HP.out, List.length_append, List.map_append]; exact HOL7.out, hk7⟩
        case measure => simp [intOf]; omega
      · have hbt : (v.d == d) = false := by rw [beq_eq_false_iff_ne]; exact hbd
        have HP := Lib.hid (pin_no HV.out hbd)
        have HQ := Lib.hid (pvo_no (a := a) HV.out hbd)
        clear hbd
        go_wp2_with fail
        go_roundw
        case rel => exact ⟨k + 1, by omega, by go_num, by rw [HP.out, HQ.out]; exact HOV.out, by rw [HP.out]; exact HOL.out, hkp⟩
        case measure => simp [intOf]; omega
    · obtain rfl : k = n := by omega
      obtain ⟨al, cl, rfl, _, _, _⟩ := own_form HOL.out
      obtain ⟨av, cv, rfl, _, _, _⟩ := own_form HOV.out
      go_wp2_with fail
      go_ret2
      exact ⟨_, _, rfl, HOV.out, HOL.out, hkp⟩

def dtake (l : List Vc) (k : Nat) : List Nat := (List.range k).filter fun d => l.any fun v => decide (v.d = (d : Int))
theorem dtake_yes {l : List Vc} {k : Nat} (h : (l.any fun v => decide (v.d = (k : Int))) = true) : dtake l (k + 1) = dtake l k ++ [k] := by
  unfold dtake
  rw [List.range_succ, List.filter_append]
  simp [h]
theorem dtake_no {l : List Vc} {k : Nat} (h : (l.any fun v => decide (v.d = (k : Int))) = false) : dtake l (k + 1) = dtake l k := by
  unfold dtake
  rw [List.range_succ, List.filter_append]
  simp [h]
theorem dtake_le (l : List Vc) (k : Nat) : (dtake l k).length ≤ k := by
  have := List.length_filter_le (fun d : Nat => l.any fun v => decide (v.d = (d : Int))) (List.range k)
  rw [List.length_range] at this
  exact this
set_option maxHeartbeats 4000000 in
set_option maxRecDepth 100000 in
theorem rdivs_any (A : Option Addr) (n ca : Nat) (xs : List Vc) (w : World) (hx : RdV w A n xs) (hn : n ≤ 100) :
    Calls Try.prog 45 #[.slice A n ca] w fun e w' => ∃ v, e = .returned v ∧ w'.ownsRow w.heap.size 3 1 v (divs xs).length ((divs xs).map natV) ∧ Kp No w w' := by
  obtain ⟨i0, hi0, hz0, hz1, hz2⟩ := info_parts info3
  have hxl := hx.1
  have HDT := Lib.hid (show divs xs = dtake xs 6 from rfl)
  go_enter Try.func45, Try.ntmps45
  go_wp2_with fail
  go_loopw [3, 4] (fun vo vi wr => ∃ k : Nat, k ≤ 6 ∧ vi = .int .i64 k ∧ wr.ownsRow w.heap.size 3 1 vo (dtake xs k).length ((dtake xs k).map natV) ∧ Kp No w wr) (fun _ vi _ => 6 - (intOf vi).toNat)
  case atStart => exact ⟨0, by omega, rfl, ⟨rfl, .inl ⟨rfl, rfl⟩⟩, Kp.refl _ _⟩
  case round =>
    obtain ⟨k, hk, rfl, hol, hkp⟩ := hrel
    have HOL := Lib.hid hol
    clear hol
    have hdl := dtake_le xs k
    by_cases hltk : (k : Int) ≤ 5
    · go_wp2_with fail
      obtain ⟨wo, rfl⟩ : ∃ wo : World, wo = wr := ⟨_, rfl⟩
      go_loopw [5, 6] (fun vb vj wr => ∃ j : Nat, j ≤ n ∧ vj = .int .i64 j ∧ vb = .bool ((xs.take j).any fun v => decide (v.d = (k : Int))) ∧ Kp No wo wr) (fun _ vj _ => n - (intOf vj).toNat)
      case atStart => exact ⟨0, by omega, rfl, by simp, Kp.refl _ _⟩
      case round =>
        obtain ⟨j, hj, rfl, rfl, hkq⟩ := hrel
        by_cases hltj : j < n
        · obtain ⟨v, hv⟩ : ∃ v, xs[j]? = some v := ⟨_, List.getElem?_eq_getElem (by omega)⟩
          obtain ⟨b, o, rfl, hb, c0, c1, c2, c3⟩ := (hx.no (hkp.tr hkq)).2 j v hv
          have HA := Lib.hid (any_take_succ (fun v : Vc => decide (v.d = (k : Int))) xs j v hv)
          clear hv
          cases hb1 : (xs.take j).any fun v => decide (v.d = (k : Int))
          · have HB := Lib.hid hb1
            clear hb1
            by_cases hvd : v.d = (k : Int)
            · have hbt : (v.d == (k : Int)) = true := by rw [beq_iff_eq]; exact hvd
              have HC := Lib.hid (show ((xs.take (j + 1)).any fun v => decide (v.d = (k : Int))) = true by rw [HA.out, HB.out, decide_eq_true hvd]; rfl)
              clear hvd
              go_wp2_with fail
              go_roundw
              case rel => exact ⟨j + 1, by omega, by go_num, by rw [HC.out], hkq⟩
              case measure => simp [intOf]; omega
            · have hbt : (v.d == (k : Int)) = false := by rw [beq_eq_false_iff_ne]; exact hvd
              have HC := Lib.hid (show ((xs.take (j + 1)).any fun v => decide (v.d = (k : Int))) = false by rw [HA.out, HB.out, decide_eq_false hvd]; rfl)
              clear hvd
              go_wp2_with fail
              go_roundw
              case rel => exact ⟨j + 1, by omega, by go_num, by rw [HC.out], hkq⟩
              case measure => simp [intOf]; omega
          · have HC := Lib.hid (show ((xs.take (j + 1)).any fun v => decide (v.d = (k : Int))) = true by rw [HA.out, hb1]; rfl)
            clear hb1
            go_wp2_with fail
            go_roundw
            case rel => exact ⟨j + 1, by omega, by go_num, by rw [HC.out], hkq⟩
            case measure => simp [intOf]; omega
        · obtain rfl : j = n := by omega
          rw [List.take_of_length_le (by omega)]
          have hkw := hkp.tr hkq
          have HOL2 := Lib.hid (hkq.owns HOL.out fun _ _ h => h)
          obtain ⟨al, cl, hal, _, _, _⟩ := own_form HOL2.out
          subst hal
          cases hb1 : xs.any fun v => decide (v.d = (k : Int))
          · have HC := Lib.hid (dtake_no hb1)
            clear hb1
            go_wp2_with fail
            go_roundw
            case rel => exact ⟨k + 1, by omega, by go_num, by rw [HC.out]; exact HOL2.out, hkw⟩
            case measure => simp [intOf]; omega
          · have HC := Lib.hid (dtake_yes hb1)
            clear hb1
            generalize dtake xs k = L at *
            go_wp2_with (at_builtin; refine stop_in ?_)
            refine stop_out ?_
            refine wpList_append_own_at _ rfl _ _ 23 rfl w.heap.size 3 i0 (.int .i64 0) 1 8 Try.underlying23 hi0 hz0 hz1 hz2 rfl (by decide) (.slice al L.length cl) L.length (L.map natV) rfl (HOL2.out.alloc (.cells #[.int .i64 k] 3)) ⟨wr.heap.size, 0, none⟩ 1 1 [.int .i64 k] rfl rfl (cell_one_new wr _ _) (ints_oneCell .i64 [(k : Int)]) (by unfold maxLen; omega) (by omega) (by have := hkw.size; simp; omega) ?_
            intro v' w7 hown' hgrow hnil hat
            have hk7 : Kp No w w7 := kp_app hkw HOL2.out (Nat.le_refl _) hgrow
            have HOL7 := Lib.hid hown'
            clear hown' hgrow hnil hat
            go_wp2_with fail
            go_roundw
            case rel => exact ⟨k + 1, by omega, by go_num, by rw [HC.out, List.length_append, List.map_append]; exact HOL7.out, hk7⟩
            case measure => simp [intOf]; omega
    · obtain rfl : k = 6 := by omega
      obtain ⟨al, cl, rfl, _, _, _⟩ := own_form HOL.out
      go_wp2_with fail
      go_ret
      exact ⟨_, rfl, HOL.out, hkp⟩
end Go.Proofs.Ytfflhlmnfhfcgaa
