/- Chapter 15: the document's Check. · Chapter 15: whether indices ascend: the program's rising, the document's Rising. Printed by gen_ris.py. · Chapter 15: the error of a system and a combination: asked. Printed by gen_ask.py. · Rows that make and literals lay: plain facts. No program in sight. -/
import Derived.Test.YtpkbpeeelpgmcaaGreatXWdKM
import Derived.Test.YtpkbpeeelpgmcaaGreatXLibRowM
namespace Go.Proofs.YtpkbpeeelpgmcaaGreat
open Go.RowKit Go.Kq Go.Flow

set_option maxHeartbeats 8000000 in
set_option maxRecDepth 100000 in
theorem rWcheck_any (Z : Nz) (l : List Sto) (vs : List Sv) (A B C : Option Addr) (ca cb n cc : Nat) (w : World) (hR : RdNz w A B Z) (hS : RdSt w C n vs l) :
    Calls Tryz.prog 14 #[windV Z A B C ca cb n cc] w fun e w' => ∃ c, e = .returned (.int .i64 c) ∧ ChkW Z l c ∧ Kp No w w' := by
  unfold windV
  obtain ⟨g, hg⟩ : ∃ g, g = w.heap.size := ⟨_, rfl⟩
  obtain ⟨w0, hw0⟩ : ∃ w0, w.alloc (.cells #[.int .i64 Z.n, .slice A Z.tr.length ca, .slice B Z.ch.length cb, .slice C n cc] 28) = w0 := ⟨_, rfl⟩
  have hk0 : Kp No w w0 := by rw [← hw0]; exact Kp.alloc _ _ _
  have HBX := Lib.hid (show w0.heap[g]? = some (.cells #[.int .i64 Z.n, .slice A Z.tr.length ca, .slice B Z.ch.length cb, .slice C n cc] 28 (0, 0)) by rw [← hw0, hg]; exact heap_alloc_new w _)
  have HK := Lib.hid hk0
  have HS := Lib.hid (hS.no hk0)
  have HL := Lib.hid hS.len
  have CK := rCheck_any Z A B ca cb w0 (hR.no hk0)
  unfold netZ at CK
  replace CK := Lib.hid CK
  clear hk0 hR hS
  obtain ⟨p0, p1, p2, p3⟩ := four_at HBX.out
  subst hg
  go_enter Tryz.func14, Tryz.ntmps14
  go_wp2_with fail
  with_reducible refine CK.out.mono ?_
  rintro e w1 ⟨c0, rfl, hc0, k1⟩
  have K1 := Lib.hid (HK.out.tr k1)
  have S1 := Lib.hid (HS.out.no k1)
  have B1 := Lib.hid (k1.heap HBX.out id)
  have HC := Lib.hid hc0
  clear k1 CK p0 p1 p2 p3 hc0
  obtain ⟨p0, p1, p2, p3⟩ := four_at B1.out
  by_cases hc : c0 = 0
  rotate_left
  · have d1 : (c0 != 0) = true := by rw [bne_iff_ne]; exact hc
    go_wp2_with fail
    go_ret
    exact ⟨c0, rfl, chk_bad HC.out hc, K1.out⟩
  subst hc
  have HE := Lib.hid (show stE Z.ch.length l = if 8 < n then 3 else if l.any (fun s => decide (8 < s.tk.length)) then 3 else if n = 0 then 2 else if keysN l = 0 then 2 else if l.any (stoBad Z.ch.length (keysN l)) then 2 else 0 by rw [← HL.out]; rfl)
  have OK := Lib.hid (fun c (h : stE Z.ch.length l = c) => show ChkW Z l c from .inr ⟨HC.out, h.symm⟩)
  by_cases h8 : 8 < n
  · have HEE := Lib.hid (show stE Z.ch.length l = 3 by rw [HE.out, if_pos h8])
    go_wp2_with fail
    go_ret
    exact ⟨3, rfl, OK.out _ HEE.out, K1.out⟩
  have d8 : decide ((8 : Int) < (n : Int)) = false := by simp; omega
  have HN8 := Lib.hid h8
  have hn8 : n ≤ 8 := by omega
  have HML := Lib.hid (show l.any (fun s => decide (8 < s.tk.length)) = true → stE Z.ch.length l = 3 from fun h => by rw [HE.out, if_neg HN8.out, if_pos h])
  clear h8
  go_wp2_with fail
  go_loop [4] (fun i => ∃ k : Nat, k ≤ n ∧ i = .int .i64 (k : Nat) ∧ (l.take k).any (fun s => decide (8 < s.tk.length)) = false) (fun i => n - (intOf i).toNat)
  case atStart => exact ⟨0, by omega, rfl, rfl⟩
  case round =>
    obtain ⟨k, hk, rfl, hno⟩ := hrel
    have HN := Lib.hid hno
    clear hno
    by_cases hlt : k < n
    · obtain ⟨s, hs⟩ : ∃ s, l[k]? = some s := ⟨_, List.getElem?_eq_getElem (by rw [HL.out]; exact hlt)⟩
      obtain ⟨v, b', o', hv, rfl, hb', x0, x1, is⟩ := S1.out.at_ hs
      have HT := Lib.hid (any_take_one (fun s : Sto => decide (8 < s.tk.length)) l k s hs)
      have HIS := Lib.hid is.2.1
      have HY := Lib.hid (show 8 < s.tk.length → l.any (fun s => decide (8 < s.tk.length)) = true from fun h => List.any_eq_true.2 ⟨s, List.mem_of_getElem? hs, by simpa using h⟩)
      obtain ⟨ch, A1, m, c1⟩ := v
      dsimp only at x0 x1 HIS
      clear hs hv is
      by_cases h1 : 8 < m
      · have HEE := Lib.hid (HML.out (HY.out (by rw [← HIS.out]; exact h1)))
        go_wp2_with fail
        go_ret
        exact ⟨3, rfl, OK.out _ HEE.out, K1.out⟩
      · go_wp2_with fail
        go_round
        case rel => exact ⟨k + 1, by omega, by go_num, by rw [HT.out, HN.out, ← HIS.out]; simp; omega⟩
        case measure => simp [intOf]; omega
    · obtain rfl : k = n := by omega
      have hm : l.any (fun s => decide (8 < s.tk.length)) = false := by
        have h := HN.out
        rwa [List.take_of_length_le (by rw [HL.out]; exact Nat.le_refl _)] at h
      have HNM := Lib.hid (fun s hs => not_many hm (s := s) hs)
      have HE2 := Lib.hid (show stE Z.ch.length l = if k = 0 then 2 else if keysN l = 0 then 2 else if l.any (stoBad Z.ch.length (keysN l)) then 2 else 0 by rw [HE.out, if_neg HN8.out, if_neg (by rw [hm]; decide)])
      clear hm HE HN HML
      by_cases h0 : k = 0
      · have HEE := Lib.hid (show stE Z.ch.length l = 2 by rw [HE2.out, if_pos h0])
        have d1 : ((k : Int) == 0) = true := by simp [h0]
        have hn0 : k ≤ 0 := by omega
        clear h0
        go_wp2_with fail
        go_ret
        exact ⟨2, rfl, OK.out _ HEE.out, K1.out⟩
      have HE3 := Lib.hid (show stE Z.ch.length l = if keysN l = 0 then 2 else if l.any (stoBad Z.ch.length (keysN l)) then 2 else 0 by rw [HE2.out, if_neg h0])
      have d0 : ((k : Int) == 0) = false := by simp [h0]
      obtain ⟨s0, hs0⟩ : ∃ s, l[0]? = some s := ⟨_, List.getElem?_eq_getElem (by rw [HL.out]; omega)⟩
      obtain ⟨v0, b, o, hv0, rfl, hb, x0, x1, is0⟩ := S1.out.at_ hs0
      have HK0 := Lib.hid (show keysN l = v0.n by unfold keysN; rw [List.getD_eq_getElem?_getD, hs0]; exact is0.2.1.symm)
      rw [Nat.zero_mul, Nat.add_zero] at x0 x1
      obtain ⟨ch0, A0, K, c0⟩ := v0
      dsimp only at x0 x1 HK0
      rw [HK0.out] at HE3
      have HK8 := Lib.hid (show K ≤ 8 by have := HNM.out s0 (List.mem_of_getElem? hs0); have h2 := is0.2.1; dsimp only at h2; omega)
      have hn0 : 0 < k := by omega
      clear h0 HE2 is0 hs0 hv0
      by_cases hk0 : K = 0
      · have HEE := Lib.hid (show stE Z.ch.length l = 2 by rw [HE3.out, if_pos hk0])
        have d1 : ((K : Int) == 0) = true := by simp [hk0]
        have hK0 : K ≤ 0 := by omega
        clear hk0
        go_wp2_with fail
        go_ret
        exact ⟨2, rfl, OK.out _ HEE.out, K1.out⟩
      have HE4 := Lib.hid (show stE Z.ch.length l = if l.any (stoBad Z.ch.length K) then 2 else 0 by rw [HE3.out, if_neg hk0])
      have d1 : ((K : Int) == 0) = false := by simp [hk0]
      have HBD := Lib.hid (show (∃ s ∈ l, stoBad Z.ch.length K s = true) → stE Z.ch.length l = 2 from fun ⟨s, hs, h⟩ => by rw [HE4.out, if_pos (List.any_eq_true.2 ⟨s, hs, h⟩)])
      clear hk0 HE3 hlt
      go_wp2_with fail
      go_loopw [5] (fun i wr => ∃ j : Nat, j ≤ k ∧ i = .int .i64 (j : Nat) ∧ (l.take j).any (stoBad Z.ch.length K) = false ∧ Kp No w1 wr) (fun i _ => k - (intOf i).toNat)
      case atStart => exact ⟨0, by omega, rfl, rfl, Kp.refl _ _⟩
      case round =>
        obtain ⟨j, hj, rfl, hno, hkp⟩ := hrel
        have HN := Lib.hid hno
        have HKP := Lib.hid hkp
        have B3 := Lib.hid (hkp.heap B1.out id)
        clear p0 p1 p2 p3
        obtain ⟨p0, p1, p2, p3⟩ := four_at B3.out
        have y0 := hkp.cell x0 id
        have y1 := hkp.cell x1 id
        have hsz := hkp.size
        clear hno x0 x1
        by_cases hlt : j < k
        · obtain ⟨s, hs⟩ : ∃ s, l[j]? = some s := ⟨_, List.getElem?_eq_getElem (by rw [HL.out]; exact hlt)⟩
          obtain ⟨v, b', o', hv, hbo, hb', x0, x1, is⟩ := (S1.out.no hkp).at_ hs
          injection hbo with hbo
          injection hbo with e1 e2
          subst e1 e2
          have HT := Lib.hid (any_take_one (stoBad Z.ch.length K) l j s hs)
          have HM := Lib.hid (List.mem_of_getElem? hs)
          have HST := Lib.hid (show stoBad Z.ch.length K s = (decide (v.ch < 0) || decide ((Z.ch.length : Int) ≤ v.ch) || decide (v.n ≠ K) || s.tk.any badX) by unfold stoBad; rw [is.1, is.2.1])
          have HIS := Lib.hid is.2.2
          obtain ⟨ch, A1, m, c1⟩ := v
          dsimp only at x0 x1 HST HIS
          obtain ⟨gb, hgb⟩ : ∃ gb, gb = wr.heap.size := ⟨_, rfl⟩
          obtain ⟨w3, hw3⟩ : ∃ w3, wr.alloc (.cells #[.int .i64 ch, .slice A1 m c1] 45) = w3 := ⟨_, rfl⟩
          have hk3 : Kp No wr w3 := by rw [← hw3]; exact Kp.alloc _ _ _
          have hb3 : w3.heap[gb]? = some (.cells #[.int .i64 ch, .slice A1 m c1] 45 (0, 0)) := by rw [← hw3, hgb]; exact heap_alloc_new wr _
          obtain ⟨q0, q1, _, _⟩ := cell_head hb3
          have B4 := Lib.hid (hk3.heap B3.out id)
          obtain ⟨r0, r1, r2, r3⟩ := four_at B4.out
          have z0 := hk3.cell y0 id
          have z1 := hk3.cell y1 id
          have HK3 := Lib.hid (hkp.tr hk3)
          have HIS3 := Lib.hid (HIS.out.no hk3)
          clear hs hv is hkp hk3 hb3
          have K23 := Lib.hid (K1.out.tr HK3.out)
          subst hgb
          by_cases h1 : ch < 0
          · have HEE := Lib.hid (HBD.out ⟨s, HM.out, by rw [HST.out]; simp [h1]⟩)
            have d2 : decide (ch < 0) = true := by simp [h1]
            clear h1
            go_wp2_with fail
            go_quiet (fail)
            go_wp2_with fail
            go_ret
            exact ⟨2, rfl, OK.out _ HEE.out, K23.out.tr (Kp.drewN _ _ _)⟩
          · by_cases h2 : (Z.ch.length : Int) ≤ ch
            · have HEE := Lib.hid (HBD.out ⟨s, HM.out, by rw [HST.out]; simp [h2]⟩)
              have d1 : decide (ch < 0) = false := by simp; omega
              have d2 : decide ((Z.ch.length : Int) ≤ ch) = true := by simp [h2]
              clear h1 h2
              go_wp2_with fail
              go_quiet (fail)
              go_wp2_with fail
              go_ret
              exact ⟨2, rfl, OK.out _ HEE.out, K23.out.tr (Kp.drewN _ _ _)⟩
            · by_cases h3 : m = K
              rotate_left
              · have HEE := Lib.hid (HBD.out ⟨s, HM.out, by rw [HST.out]; simp [h3]⟩)
                have d3 : ((m : Int) != (K : Int)) = true := by simp; omega
                have d1 : decide (ch < 0) = false := by simp; omega
                have d2 : decide ((Z.ch.length : Int) ≤ ch) = false := by simp; omega
                clear h1 h2 h3
                go_wp2_with fail
                go_quiet (fail)
                go_wp2_with fail
                go_ret
                exact ⟨2, rfl, OK.out _ HEE.out, K23.out.tr (Kp.drewN _ _ _)⟩
              · subst h3
                have d3 : ((m : Int) != (m : Int)) = false := by simp
                have HST2 := Lib.hid (show stoBad Z.ch.length m s = s.tk.any badX by rw [HST.out]; simp; omega)
                have d1 : decide (ch < 0) = false := by simp; omega
                have d2 : decide ((Z.ch.length : Int) ≤ ch) = false := by simp; omega
                have HBY := Lib.hid (show (∃ x ∈ s.tk, badX x = true) → stE Z.ch.length l = 2 from fun ⟨x, hx, h⟩ => HBD.out ⟨s, HM.out, by rw [HST2.out]; exact List.any_eq_true.2 ⟨x, hx, h⟩⟩)
                clear h1 h2
                go_wp2_with fail
                go_quiet (fail)
                have q2 := Kp.drewN No w3 nq
                have q1 := q2.cell q1 id
                have HKQ := Lib.hid q2
                have HISQ := Lib.hid (HIS3.out.no q2)
                have hm8 := HK8.out
                generalize w3.drewN nq = w4 at *
                clear q2
                go_wp2_with fail
                go_loop [7] (fun i => ∃ t : Nat, t ≤ m ∧ i = .int .i64 (t : Nat) ∧ (s.tk.take t).any badX = false) (fun i => m - (intOf i).toNat)
                case atStart => exact ⟨0, by omega, rfl, rfl⟩
                case round =>
                  obtain ⟨t, ht, rfl, hno⟩ := hrel
                  have HNT := Lib.hid hno
                  clear hno
                  by_cases hlt2 : t < m
                  · obtain ⟨x, hx⟩ : ∃ x, s.tk[t]? = some x := ⟨_, List.getElem?_eq_getElem (by rw [HISQ.out.1]; exact hlt2)⟩
                    obtain ⟨b2, o2, rfl, hb2, hc2⟩ := HISQ.out.2 t x hx
                    have HTT := Lib.hid (any_take_one badX s.tk t x hx)
                    have HMX := Lib.hid (List.mem_of_getElem? hx)
                    clear hx
                    by_cases h1 : x < 0
                    · have HEE := Lib.hid (HBY.out ⟨x, HMX.out, by unfold badX; simp [h1]⟩)
                      have e1 : decide (x < 0) = true := by simp [h1]
                      go_wp2_with fail
                      go_ret
                      exact ⟨2, rfl, OK.out _ HEE.out, K23.out.tr HKQ.out⟩
                    · by_cases h2 : 1000000000 < x
                      · have HEE := Lib.hid (HBY.out ⟨x, HMX.out, by unfold badX; simp [h2]⟩)
                        go_wp2_with fail
                        go_ret
                        exact ⟨2, rfl, OK.out _ HEE.out, K23.out.tr HKQ.out⟩
                      · have HF := Lib.hid (show badX x = false by unfold badX; simp; omega)
                        go_wp2_with fail
                        go_round
                        case rel => exact ⟨t + 1, by omega, by go_num, by rw [HTT.out, HNT.out, HF.out]; rfl⟩
                        case measure => simp [intOf]; omega
                  · obtain rfl : t = m := by omega
                    have HF := Lib.hid (show stoBad Z.ch.length t s = false by
                      have h := HNT.out
                      rw [List.take_of_length_le (by rw [HISQ.out.1]; exact Nat.le_refl _)] at h
                      rw [HST2.out, h])
                    go_wp2_with fail
                    go_roundw
                    case rel => exact ⟨j + 1, by omega, by go_num, by rw [HT.out, HN.out, HF.out]; rfl, HK3.out.tr HKQ.out⟩
                    case measure => simp [intOf]; omega
        · obtain rfl : j = k := by omega
          have HEE := Lib.hid (show stE Z.ch.length l = 0 by
            have h := HN.out
            rw [List.take_of_length_le (by rw [HL.out]; exact Nat.le_refl _)] at h
            rw [HE4.out, h]
            rfl)
          go_wp2_with fail
          go_ret
          exact ⟨0, rfl, OK.out _ HEE.out, K1.out.tr HKP.out⟩
end Go.Proofs.YtpkbpeeelpgmcaaGreat

namespace Go.Proofs.YtpkbpeeelpgmcaaGreat
open Go.RowKit Go.Kq Go.Flow

def risG (many : Nat) (l : List Int) (i : Nat) : Bool := decide (0 ≤ l.getD i 0) && decide (l.getD i 0 < many) && (decide (i = 0) || decide (l.getD (i - 1) 0 < l.getD i 0))
theorem ris_is (many : Nat) (l : List Int) : risB many l = (List.range l.length).all (risG many l) := rfl
theorem ris_succ (many : Nat) (l : List Int) (k : Nat) : (List.range (k + 1)).all (risG many l) = ((List.range k).all (risG many l) && risG many l k) := by
  rw [List.range_succ, List.all_append]
  simp
theorem ris_bad {many : Nat} {l : List Int} {k : Nat} (h : k < l.length) (hg : risG many l k = false) : risB many l = false := by
  rw [ris_is, List.all_eq_false]
  exact ⟨k, List.mem_range.2 h, by rw [hg]; decide⟩
set_option maxHeartbeats 8000000 in
set_option maxRecDepth 100000 in
theorem rising_any (A : Option Addr) (n c many : Nat) (l : List Int) (w : World) (hR : RdI .i64 w A n l) (hn : n ≤ 9223372036854775807) :
    Calls Tryz.prog 45 #[.slice A n c, .int .i64 (many : Nat)] w fun e w' => e = .returned (.bool (risB many l)) ∧ ∃ q, w' = w.drewN q := by
  have HR := Lib.hid hR
  have HL := Lib.hid hR.1
  have HB := Lib.hid (fun k (h : k < l.length) => ris_bad (many := many) h)
  clear hR
  go_enter Tryz.func45, Tryz.ntmps45
  go_wp2_with fail
  go_loopw [9] (fun i wr => ∃ k : Nat, k ≤ n ∧ i = .int .i64 (k : Nat) ∧ (List.range k).all (risG many l) = true ∧ ∃ q, wr = w.drewN q) (fun i _ => n - (intOf i).toNat)
  case atStart => exact ⟨0, by omega, rfl, rfl, 0, rfl⟩
  case round =>
    obtain ⟨k, hk, rfl, hno, q, hq⟩ := hrel
    have HN := Lib.hid hno
    have HQ := Lib.hid hq
    have hkp : Kp No w wr := by rw [hq]; exact Kp.drewN _ _ _
    clear hno hq
    by_cases hlt : k < n
    · obtain ⟨x, hx⟩ : ∃ x, l[k]? = some x := ⟨_, List.getElem?_eq_getElem (by rw [HL.out]; exact hlt)⟩
      obtain ⟨b, o, rfl, hb, hc⟩ := (HR.out.no hkp).2 k x hx
      have HT := Lib.hid (ris_succ many l k)
      have HGE := Lib.hid (show risG many l k = (decide (0 ≤ x) && decide (x < many) && (decide (k = 0) || decide (l.getD (k - 1) 0 < x))) by unfold risG; rw [List.getD_eq_getElem?_getD (l := l) (i := k), hx]; rfl)
      have HBB := Lib.hid (HB.out k (by rw [HL.out]; exact hlt))
      clear hx
      by_cases h1 : x < 0
      · have d1 : decide (x < 0) = true := by simp [h1]
        have HEE := Lib.hid (show risB many l = false from HBB.out (by rw [HGE.out]; simp; omega))
        clear hkp h1
        go_wp2_with fail
        go_ret
        exact ⟨ret_bool HEE.out.symm, q, HQ.out⟩
      · have d1 : decide (x < 0) = false := by simp; omega
        by_cases h2 : (many : Int) ≤ x
        · have d2 : decide ((many : Int) ≤ x) = true := by simp [h2]
          have HEE := Lib.hid (show risB many l = false from HBB.out (by rw [HGE.out]; simp; omega))
          clear hkp h1 h2
          go_wp2_with fail
          go_ret
          exact ⟨ret_bool HEE.out.symm, q, HQ.out⟩
        · have d2 : decide ((many : Int) ≤ x) = false := by simp; omega
          by_cases h0 : 0 < k
          rotate_left
          · have HG := Lib.hid (show risG many l k = true by rw [HGE.out]; simp; omega)
            have d0 : decide ((0 : Int) < (k : Int)) = false := by simp; omega
            clear hkp h1 h2
            go_wp2_with fail
            go_roundw
            case rel => exact ⟨k + 1, by omega, by go_num, by rw [HT.out, HN.out, HG.out]; rfl, q, HQ.out⟩
            case measure => simp [intOf]; omega
          · obtain ⟨y, hy⟩ : ∃ y, l[k - 1]? = some y := ⟨_, List.getElem?_eq_getElem (by rw [HL.out]; omega)⟩
            obtain ⟨b', o', e', _, hc'⟩ := (HR.out.no hkp).2 (k - 1) y hy
            injection e' with e'
            injection e' with e1 e2
            subst e1 e2
            have HY := Lib.hid (show l.getD (k - 1) 0 = y by rw [List.getD_eq_getElem?_getD, hy]; rfl)
            obtain ⟨j, hjk⟩ : ∃ j, j = k - 1 := ⟨k - 1, rfl⟩
            rw [← hjk] at hc' HY HGE
            have hw : IntKind.i64.wrap ((k : Int) - 1) = (j : Int) := by rw [IntKind.wrap_i64]; omega
            have hj : (k : Int) - 1 = (j : Int) := by omega
            have hjn : j < n := by omega
            clear hjk
            clear hy hkp
            have d0 : decide ((0 : Int) < (k : Int)) = true := by simp; omega
            by_cases h3 : x ≤ y
            · have d3 : decide (x ≤ y) = true := by simp [h3]
              have HEE := Lib.hid (show risB many l = false from HBB.out (by rw [HGE.out, HY.out]; simp; omega))
              clear h1 h2 h3
              go_wp2_with fail
              go_ret
              exact ⟨ret_bool HEE.out.symm, q, HQ.out⟩
            · have d3 : decide (x ≤ y) = false := by simp; omega
              have HG := Lib.hid (show risG many l k = true by rw [HGE.out, HY.out]; simp; omega)
              clear h1 h2 h3
              go_wp2_with fail
              go_roundw
              case rel => exact ⟨k + 1, by omega, by go_num, by rw [HT.out, HN.out, HG.out]; rfl, q, HQ.out⟩
              case measure => simp [intOf]; omega
    · obtain rfl : k = n := by omega
      have HEE := Lib.hid (show risB many l = true by rw [ris_is, HL.out]; exact HN.out)
      clear hkp
      go_wp2_with fail
      go_ret
      exact ⟨ret_bool HEE.out.symm, q, HQ.out⟩
end Go.Proofs.YtpkbpeeelpgmcaaGreat

namespace Go.Proofs.YtpkbpeeelpgmcaaGreat
open Go.RowKit Go.Kq Go.Flow

/-- A combination as a value. -/
def comboV (P : Option Addr) (p cp : Nat) (Q : Option Addr) (q cq : Nat) : Value := .agg #[.slice P p cp, .slice Q q cq]
def AskW (Z : Nz) (l : List Sto) (S K : List Int) (c : Int) : Prop := (ChkW Z l c ∧ c ≠ 0) ∨ (ChkW Z l 0 ∧ c = if risB l.length S && risB (keysN l) K then 0 else 2)
theorem AskW.uniq {Z : Nz} {l : List Sto} {S K : List Int} {c d : Int} (h : AskW Z l S K c) (k : AskW Z l S K d) : c = d := by
  rcases h with ⟨h1, h2⟩ | ⟨h1, h2⟩ <;> rcases k with ⟨k1, k2⟩ | ⟨k1, k2⟩
  · exact h1.uniq k1
  · exact absurd (h1.uniq k1) h2
  · exact absurd (k1.uniq h1) k2
  · rw [h2, k2]
set_option maxHeartbeats 8000000 in
set_option maxRecDepth 100000 in
theorem asked_any (Z : Nz) (l : List Sto) (vs : List Sv) (A B C P Q : Option Addr) (ca cb n cc p cp q cq : Nat) (S K : List Int) (w : World) (hR : RdNz w A B Z) (hS : RdSt w C n vs l) (hP : RdI .i64 w P p S) (hQ : RdI .i64 w Q q K) (hp : p ≤ 9223372036854775807) (hq : q ≤ 9223372036854775807) :
    Calls Tryz.prog 20 #[windV Z A B C ca cb n cc, comboV P p cp Q q cq] w fun e w' => ∃ c, e = .returned (.int .i64 c) ∧ AskW Z l S K c ∧ Kp No w w' := by
  unfold comboV
  obtain ⟨g, hg⟩ : ∃ g, g = w.heap.size := ⟨_, rfl⟩
  obtain ⟨w0, hw0⟩ : ∃ w0, (w.alloc (.cells #[.int .i64 Z.n, .slice A Z.tr.length ca, .slice B Z.ch.length cb, .slice C n cc] 28)).alloc (.cells #[.slice P p cp, .slice Q q cq] 30) = w0 := ⟨_, rfl⟩
  have hk0 : Kp No w w0 := by rw [← hw0]; exact (Kp.alloc _ _ _).tr (Kp.alloc _ _ _)
  have HBX := Lib.hid (show w0.heap[g]? = some (.cells #[.int .i64 Z.n, .slice A Z.tr.length ca, .slice B Z.ch.length cb, .slice C n cc] 28 (0, 0)) by rw [← hw0, hg]; exact (Kp.alloc No _ _).heap (heap_alloc_new w _) id)
  have HBC := Lib.hid (show w0.heap[g + 1]? = some (.cells #[.slice P p cp, .slice Q q cq] 30 (0, 0)) by
    rw [← hw0, hg]
    have := heap_alloc_new (w.alloc (.cells #[.int .i64 Z.n, .slice A Z.tr.length ca, .slice B Z.ch.length cb, .slice C n cc] 28)) (.cells #[.slice P p cp, .slice Q q cq] 30)
    simpa using this)
  have CK := Wcheck_any Z l vs A B C ca cb n cc w0 (hR.no hk0) (hS.no hk0)
  unfold windV at CK ⊢
  replace CK := Lib.hid CK
  have HK := Lib.hid hk0
  have HS := Lib.hid (hS.no hk0)
  have HL := Lib.hid hS.len
  have HP := Lib.hid (hP.no hk0)
  have HQ := Lib.hid (hQ.no hk0)
  clear hk0 hR hS hP hQ
  obtain ⟨p0, p1, p2, p3⟩ := four_at HBX.out
  obtain ⟨q0, q1, _, _⟩ := cell_head HBC.out
  subst hg
  go_enter Tryz.func20, Tryz.ntmps20
  go_wp2_with fail
  with_reducible refine CK.out.mono ?_
  rintro e w1 ⟨c0, rfl, hc0, k1⟩
  have K1 := Lib.hid (HK.out.tr k1)
  have S1 := Lib.hid (HS.out.no k1)
  have B1 := Lib.hid (k1.heap HBX.out id)
  have C1 := Lib.hid (k1.heap HBC.out id)
  have HC := Lib.hid hc0
  have R1 := Lib.hid (fun W (k : Kp No w1 W) => rising_any P p cp n S W ((HP.out.no k1).no k) hp)
  have R2 := fun KK W (k : Kp No w1 W) => rising_any Q q cq KK K W ((HQ.out.no k1).no k) hq
  have KD := Lib.hid (fun z => Kp.drewN No w1 z)
  clear k1 CK p0 p1 p2 p3 q0 q1 hc0 hp hq
  obtain ⟨p0, p1, p2, p3⟩ := four_at B1.out
  obtain ⟨q0, q1, _, _⟩ := cell_head C1.out
  by_cases hc : c0 = 0
  rotate_left
  · have d1 : (c0 != 0) = true := by rw [bne_iff_ne]; exact hc
    have d2 : (c0 == 0) = false := by rw [beq_eq_false_iff_ne]; exact hc
    have HZ := Lib.hid hc
    clear hc
    go_wp2_with fail

    go_ret
    exact ⟨c0, rfl, .inl ⟨HC.out, HZ.out⟩, K1.out⟩
  subst hc
  have OK := Lib.hid (fun c (h : c = if risB l.length S && risB (keysN l) K then 0 else 2) => show AskW Z l S K c from .inr ⟨HC.out, h⟩)
  rw [HL.out] at OK
  have hok : StoOk Z.ch.length l := by
    rcases HC.out with ⟨_, h⟩ | ⟨_, h⟩
    · exact absurd rfl h
    · exact stE_ok h.symm
  have hl1 := hok.l1
  rw [HL.out] at hl1
  obtain ⟨s0, hs0⟩ : ∃ s, l[0]? = some s := ⟨_, List.getElem?_eq_getElem (by rw [HL.out]; omega)⟩
  obtain ⟨v0, b, o, hv0, rfl, hb, x0, x1, is0⟩ := S1.out.at_ hs0
  have HK0 := Lib.hid (show keysN l = v0.n by unfold keysN; rw [List.getD_eq_getElem?_getD, hs0]; exact is0.2.1.symm)
  rw [Nat.zero_mul, Nat.add_zero] at x0 x1
  obtain ⟨ch0, A0, KK, c0⟩ := v0
  dsimp only at x0 x1 HK0
  rw [HK0.out] at OK
  replace R2 := Lib.hid (R2 KK)
  clear is0 hs0 hv0 hok
  cases hr1 : risB n S
  · rw [hr1] at R1 OK
    have HO := Lib.hid (OK.out 2 rfl)
    clear hr1 R2 OK
    go_wp2_with fail
    go_quiet ((go_at_call 45; with_reducible exact Calls.quiet_of (R1.out _ (KD.out _))))
    go_wp2_with fail
    go_ret
    exact ⟨2, rfl, HO.out, K1.out.tr (Kp.drewN _ _ _)⟩
  · rw [hr1] at R1 OK
    clear hr1
    cases hr2 : risB KK K
    · rw [hr2] at R2 OK
      have HO := Lib.hid (OK.out 2 rfl)
      clear hr2 OK
      go_wp2_with fail
      go_quiet ((first | (go_at_call 45; with_reducible exact Calls.quiet_of (R1.out _ (KD.out _))) | (go_at_call 45; with_reducible exact Calls.quiet_of (R2.out _ (KD.out _)))))
      go_wp2_with fail
      go_ret
      exact ⟨2, rfl, HO.out, K1.out.tr (Kp.drewN _ _ _)⟩
    · rw [hr2] at R2 OK
      have HO := Lib.hid (OK.out 0 rfl)
      clear hr2 OK
      go_wp2_with fail
      go_quiet ((first | (go_at_call 45; with_reducible exact Calls.quiet_of (R1.out _ (KD.out _))) | (go_at_call 45; with_reducible exact Calls.quiet_of (R2.out _ (KD.out _)))))
      go_wp2_with fail
      go_ret
      exact ⟨0, rfl, HO.out, K1.out.tr (Kp.drewN _ _ _)⟩
end Go.Proofs.YtpkbpeeelpgmcaaGreat

namespace Go.Kq
open Go.RowKit

theorem made_flat {α : Type} (f : α → List Value) (x : α) (z : Array Value) (s n : Nat) (hz : z.size = s) (hs : 0 < s) (hf : f x = z.toList) : madeCells z (n * s) = ((List.replicate n x).flatMap f).toArray := by
  have hfl : ∀ y : Unit, ((fun _ : Unit => z.toList) y).length = s := fun _ => by simpa using hz
  have e : (List.replicate n x).flatMap f = (List.replicate n ()).flatMap fun _ => z.toList := by
    rw [List.flatMap_replicate, List.flatMap_replicate, hf]
  rw [e]
  apply Array.ext
  · rw [size_madeCells, List.size_toArray, flat_len hfl, List.length_replicate]
  · intro i h1 h2
    rw [size_madeCells] at h1
    have hd : i / s < n := Nat.div_lt_of_lt_mul (by rw [Nat.mul_comm]; exact h1)
    have hm : i % s < z.size := by rw [hz]; exact Nat.mod_lt _ hs
    have := flat_at hfl (List.replicate n ()) (i / s) () (i % s) z[i % s] (by simp [hd]) (by simp [hm])
    rw [Nat.div_add_mod'] at this
    obtain ⟨h3, h4⟩ := List.getElem?_eq_some_iff.1 this
    simp only [List.getElem_toArray]
    rw [h4]
    have hm' : z[i % s]! = z[i % s] := getElem!_pos z (i % s) hm
    simp [madeCells, hz, hm']
theorem own_made (w : World) {base e s n : Nat} {xs : List Value} (hl : xs.length = n * s) (hb : base ≤ w.heap.size) (hn : n ≤ maxLen) : (w.alloc (.cells xs.toArray e)).ownsRow base e s (.slice (some ⟨w.heap.size, 0, none⟩) n n) n xs :=
  ⟨hl, .inr ⟨_, n, xs.toArray, rfl, hb, heap_alloc_new w _, Nat.le_refl _, hn, by simpa using hl, by rw [← hl]; simp⟩⟩
theorem run_make_flat {P : Program} (w : World) {α : Type} (f : α → List Value) (x : α) (t e : TypeId) (i : TypeInfo) (z : Value) (s bytes n : Nat) (ht : P.underlying t = some (.slice e)) (hi : P.info? e = some i) (hz : i.zero = some z) (hsz : i.size = s) (hby : i.bytes = bytes) (hs : 0 < s) (hzs : z.cells.size = s) (hf : f x = z.cells.toList) (hb : bytes * n ≤ 281474976710656) (hn : n ≤ 9223372036854775807) :
    (Instr.makeSlice t (.int .i64 (n : Nat)) (.int .i64 (n : Nat))).run P w = .ok (.slice (some ⟨w.heap.size, 0, none⟩) n n) (w.alloc (.cells ((List.replicate n x).flatMap f).toArray e)) := by
  have h := run_make (P := P) w t e i z ht hi hz .i64 .i64 n n (by omega) (by omega) (by rw [hby, ← Int.natCast_mul]; omega) (by omega)
  rw [h, hsz, show (n : Int).toNat = n by omega, made_flat f x z.cells s n hzs hs hf]
end Go.Kq
