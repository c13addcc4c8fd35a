/- Chapter 27: the reference's Since: the walk. -/
import Derived.Test.YtjbpdimepckmfaaXSin
namespace Go.Proofs.Ytjbpdimepckmfaa
open Go.RowKit Go.Kq

theorem badN_no {x : Int} (h : badN x = false) : 0 ≤ x ∧ x ≤ 400 := by
  unfold badN at h
  simp only [Bool.or_eq_false_iff, decide_eq_false_iff_not] at h
  omega
set_option maxHeartbeats 2000000 in
set_option maxRecDepth 100000 in
theorem rSince_any (A : Option Addr) (n ca : Nat) (l : List Wk) (AS : Option Addr) (m cs : Nat) (seen : List Int) (w : World) (hx : RdW w A n l) (hf : Fits l) (hca : n ≤ ca) (hs : RdI .i64 w AS m seen) (hm : m ≤ maxLen) :
    Calls Try.prog 32 #[.slice A n ca, .slice AS m cs] w fun e w' => ∃ v, e = .returned (.tuple #[v, .int .i64 (sinceE l seen)]) ∧ w'.ownsRow w.heap.size 41 11 v (sinceV l seen).length ((sinceV l seen).flatMap Wk.cells) ∧ Kp No w w' := by
  unfold maxLen at hm
  have hc := rCheck_any A n ca l w hx hf hca
  have HX := Lib.hid hx
  have HS := Lib.hid hs
  have HML := Lib.hid hs.1
  obtain ⟨i0, hi0, hz0, hz1, hz2⟩ := info_parts info41
  clear hx hf hs
  by_cases h1 : chkL l = 0
  rotate_left
  · have q1 : (chkL l != 0) = true := by rw [bne_iff_ne]; exact h1
    have HE := Lib.hid (show sinceE l seen = chkL l from if_pos h1)
    have HV := Lib.hid (show sinceV l seen = [] by unfold sinceV; rw [HE.out, if_neg h1])
    rw [HE.out]
    generalize chkL l = x at hc q1 ⊢
    clear h1 HE
    go_enter Try.func32, Try.ntmps32
    go_wp2_with fail
    with_reducible refine hc.mono ?_
    rintro e w1 ⟨rfl, hk1⟩
    go_wp2_with fail
    refine bodyPost_ret (v := .tuple #[.slice none 0 0, .int .i64 x]) (by simp [results, Try.results32, go_sem]) rfl ⟨.slice none 0 0, rfl, by rw [HV.out]; exact own_nilS, hk1⟩
  have HR := Lib.hid (rec_of h1)
  have HL := Lib.hid HX.out.1
  have hn : n ≤ 400 := by rw [← HL.out]; exact HR.out.len
  have HE0 := Lib.hid (show sinceE l seen = if m ≠ 20 ∨ seen.any badN = true then 2 else 0 by unfold sinceE; rw [if_neg (by rw [h1]; simp), HML.out])
  rw [h1] at hc
  clear h1
  by_cases hm20 : m = 20
  rotate_left
  · have q1 : ((m : Int) != 20) = true := by rw [bne_iff_ne]; omega
    have HE := Lib.hid (show sinceE l seen = 2 by rw [HE0.out, if_pos (.inl hm20)])
    have HV := Lib.hid (show sinceV l seen = [] by unfold sinceV; rw [HE.out]; rfl)
    rw [HE.out]
    clear HE0 HE hm20
    go_enter Try.func32, Try.ntmps32
    go_wp2_with fail
    with_reducible refine hc.mono ?_
    rintro e w1 ⟨rfl, hk1⟩
    go_wp2_with fail
    refine bodyPost_ret (v := .tuple #[.slice none 0 0, .int .i64 2]) (by simp [results, Try.results32, go_sem]) rfl ⟨.slice none 0 0, rfl, by rw [HV.out]; exact own_nilS, hk1⟩
  subst hm20
  have HRES : Hid (∀ E, E = (if seen.any badN = true then (2 : Int) else 0) → sinceE l seen = E) := Lib.hid (fun E hE => by
    rw [HE0.out, hE]
    by_cases hb : seen.any badN = true
    · rw [if_pos (.inr hb), if_pos hb]
    · rw [if_neg (fun h => h.elim (fun h => h rfl) hb), if_neg hb])
  clear HE0 hm
  go_enter Try.func32, Try.ntmps32
  go_wp2_with fail
  with_reducible refine hc.mono ?_
  rintro e w1 ⟨rfl, hk1⟩
  have HS1 := Lib.hid (HS.out.no hk1)
  have HX1 := Lib.hid (HX.out.no hk1)
  clear hc
  go_wp2_with fail
  go_loop [7] (fun vi => ∃ k : Nat, k ≤ 20 ∧ vi = .int .i64 k ∧ (seen.take k).any badN = false) (fun vi => 20 - (intOf vi).toNat)
  case atStart => exact ⟨0, by omega, rfl, by simp⟩
  case round =>
    obtain ⟨k, hk, rfl, hno⟩ := hrel
    have HN := Lib.hid hno
    clear hno
    by_cases hlt : k < 20
    · obtain ⟨x, hx⟩ : ∃ x, seen[k]? = some x := ⟨_, List.getElem?_eq_getElem (by rw [HML.out]; omega)⟩
      obtain ⟨b, o, rfl, _, hc⟩ := HS1.out.2 k x hx
      have HT := Lib.hid (any_take_succ badN seen k x hx)
      have HXK := Lib.hid hx
      have hk20 : (k : Int) < 20 := by omega
      have hk21 : k < 20 := by omega
      have hdk : decide ((k : Int) < 20) = true := decide_eq_true hk20
      clear hx
      cases hb : badN x with
      | true =>
        have HB := Lib.hid (show seen.any badN = true from List.any_eq_true.2 ⟨x, List.mem_of_getElem? HXK.out, hb⟩)
        have HE := Lib.hid (HRES.out 2 (by rw [HB.out]; rfl))
        have HV := Lib.hid (show sinceV l seen = [] by unfold sinceV; rw [HE.out]; rfl)
        have hb2 : (decide (x < 0) || decide (400 < x)) = true := hb
        clear hb
        by_cases h0 : x < 0
        · clear hb2
          go_wp2_with fail
          refine bodyPost_ret (v := .tuple #[.slice none 0 0, .int .i64 2]) (by simp [results, Try.results32, go_sem]) rfl ⟨.slice none 0 0, by rw [HE.out], by rw [HV.out]; exact own_nilS, hk1⟩
        · have h4 : 400 < x := by simpa [h0] using hb2
          clear hb2
          go_wp2_with fail
          refine bodyPost_ret (v := .tuple #[.slice none 0 0, .int .i64 2]) (by simp [results, Try.results32, go_sem]) rfl ⟨.slice none 0 0, by rw [HE.out], by rw [HV.out]; exact own_nilS, hk1⟩
      | false =>
        obtain ⟨h0, h4⟩ := badN_no hb
        have HB := Lib.hid hb
        clear hb
        go_wp2_with fail
        go_round
        case rel => exact ⟨k + 1, by omega, by go_num, by rw [HT.out, HN.out, HB.out]; rfl⟩
        case measure => simp [intOf]; omega
    · obtain rfl : k = 20 := by omega
      have HB := Lib.hid (show seen.any badN = false by have := HN.out; rwa [List.take_of_length_le (by rw [HML.out]; exact Nat.le_refl _)] at this)
      have HE := Lib.hid (HRES.out 0 (by rw [HB.out]; rfl))
      have HV := Lib.hid (show sinceV l seen = keepL (seenP seen) l by unfold sinceV; rw [HE.out]; rfl)
      clear HN HRES
      go_wp2_with fail
      go_loopw [8, 9] (fun vo vi wr => ∃ k : Nat, k ≤ n ∧ vi = .int .i64 k ∧ wr.ownsRow w1.heap.size 41 11 vo (keepL (seenP seen) (l.take k)).length ((keepL (seenP seen) (l.take k)).flatMap Wk.cells) ∧ Kp No w1 wr) (fun _ vi _ => n - (intOf vi).toNat)
      case atStart => exact ⟨0, by omega, rfl, ⟨rfl, .inl ⟨rfl, rfl⟩⟩, Kp.refl _ _⟩
      case round =>
        obtain ⟨k, hk, rfl, how, hkp⟩ := hrel
        have HOW := Lib.hid how
        obtain ⟨al, cl, rfl, _, _, _⟩ := own_form how
        obtain ⟨M, hM⟩ : ∃ M, M = (keepL (seenP seen) (l.take k)).length := ⟨_, rfl⟩
        have hMk : M ≤ k := by
          rw [hM]
          have h1 : (keepL (seenP seen) (l.take k)).length ≤ (l.take k).length := List.length_filter_le _ _
          rw [List.length_take] at h1
          omega
        rw [← hM] at HOW ⊢
        have HM := Lib.hid hM
        clear how hM
        by_cases hlt : k < n
        · obtain ⟨v, hv⟩ : ∃ v, l[k]? = some v := ⟨_, List.getElem?_eq_getElem (by rw [HL.out]; omega)⟩
          obtain ⟨b, o, rfl, _, hat⟩ := RdW.at_ (HX1.out.no hkp) hv
          obtain ⟨h0, h20, _⟩ := HR.out.fits k v hv
          obtain ⟨q, hq⟩ : ∃ q : Nat, v.wk = (q : Int) := ⟨v.wk.toNat, by omega⟩
          have hq20 : q < 20 := by omega
          have hqi : (q : Int) < 20 := by omega
          obtain ⟨s, hse⟩ : ∃ s, seen[q]? = some s := ⟨_, List.getElem?_eq_getElem (by rw [HML.out]; omega)⟩
          have HP := Lib.hid (show seenP seen v = decide (v.num ≤ s) by unfold seenP; rw [hq, Int.toNat_natCast, List.getD_eq_getElem?_getD, hse]; rfl)
          obtain ⟨bs, os, rfl, _, hsc⟩ := (HS1.out.no hkp).2 q s hse
          have HT := Lib.hid (keepL_take (seenP seen) hv)
          have HAT := Lib.hid hat
          have HQ := Lib.hid hq
          have hkn : (k : Int) < (n : Int) := by omega
          obtain ⟨c0, c1, _⟩ := hat
          rw [hq] at c0
          clear hv hq hse h0 h20
          by_cases hle : v.num ≤ s
          · have hcmp : decide (s < v.num) = false := by rw [decide_eq_false_iff_not]; omega
            have HK1 := Lib.hid (show keepL (seenP seen) (l.take (k + 1)) = keepL (seenP seen) (l.take k) by rw [HT.out, HP.out, decide_eq_true hle]; simp)
            clear hle
            go_wp2_with fail
            go_quiet (fail)
            go_wp2_with fail
            go_roundw
            case rel => exact ⟨k + 1, by omega, by go_num, by rw [HK1.out, ← HM.out]; exact (Kp.drewN No wr _).owns HOW.out (fun _ _ h => h), hkp.tr (Kp.drewN _ _ _)⟩
            case measure => simp [intOf]; omega
          · have hcmp : decide (s < v.num) = true := by rw [decide_eq_true_eq]; omega
            have HK1 := Lib.hid (show keepL (seenP seen) (l.take (k + 1)) = keepL (seenP seen) (l.take k) ++ [v] by rw [HT.out, HP.out, decide_eq_false hle]; simp)
            clear hle
            go_wp2_with fail
            go_quiet (fail)
            have hkr := Kp.drewN No wr nq
            have HO2 := Lib.hid (hkr.owns HOW.out fun _ _ h => h)
            have hkp2 := hkp.tr hkr
            have HA2 := Lib.hid (HAT.out.no hkr)
            clear c0 c1 hsc hkr HAT HOW
            generalize wr.drewN nq = w5 at HO2 hkp2 HA2 ⊢
            obtain ⟨c0, c1, c2, c3, c4, c5, c6, c7, c8, c9, c10⟩ := HA2.out
            go_wp2_with (at_builtin; refine stop_in ?_)
            refine stop_out ?_
            refine wpL_append_any rfl _ _ 22 rfl w1.heap.size 41 i0 (Wk.val default) 11 96 Try.underlying22 hi0 hz0 hz1 hz2 rfl (by decide) (.slice al M cl) M _ rfl (HO2.out.alloc (.cells v.cells.toArray 41)) (some ⟨w5.heap.size, 0, none⟩) 1 1 v.cells rfl rfl (fun h => (by cases h)) (fun ad had => by cases had; exact new_cells w5 v.cells (by rw [wk_len]; unfold maxLen; omega)) (cells_oneP v) (by unfold maxLen; omega) (by omega) (by have := hkp2.size; simp; omega) ?_
            intro v' w7 hown' hgrow hat'
            have hk7 : Kp No w1 w7 := kp_app hkp2 HO2.out (Nat.le_refl _) hgrow
            obtain ⟨a7, c7, rfl, _, _, _⟩ := own_form hown'
            have HO7 := Lib.hid hown'
            clear hown' hgrow hat'
            go_wp2_with fail
            go_roundw
            case rel => exact ⟨k + 1, by omega, by go_num, by rw [HK1.out, List.length_append, ← HM.out, List.flatMap_append]; simpa using HO7.out, hk7⟩
            case measure => simp [intOf]; omega
        · obtain rfl : k = n := by omega
          rw [List.take_of_length_le (l := l) (by rw [HL.out]; omega)] at HOW HM
          go_wp2_with fail
          refine bodyPost_ret (v := .tuple #[.slice al M cl, .int .i64 0]) (by simp [results, Try.results32, go_sem]) rfl ⟨_, by rw [HE.out], by rw [HV.out, ← HM.out]; exact own_mono HOW.out hk1.size, hk1.tr hkp⟩
end Go.Proofs.Ytjbpdimepckmfaa
