/- Chapter 24: the document's Fill. -/
import Derived.Test.YtakgcnjpmpcekaaGreatXFiA
import Derived.Test.YtakgcnjpmpcekaaGreatXRfBaM
namespace Go.Proofs.YtakgcnjpmpcekaaGreat
open Go.RowKit Go.Kq

theorem sum_take_one {r : List Int} {k : Nat} {x : Int} (h : r[k]? = some x) : (r.take (k + 1)).sum = (r.take k).sum + x := by
  rw [List.take_add_one, h]
  simp
set_option maxHeartbeats 8000000 in
theorem rFill_any (W : Int) (R : Option Addr) (m cr : Nat) (r : List Int) (w : World) (hR : RdI .i64 w R m r) :
    Calls Tryz.prog 6 #[.int .i64 W, .slice R m cr] w (FilR W r w) := by
  have hl := hR.1
  have HR := Lib.hid hR
  have HL := Lib.hid hl
  have OUT := Lib.hid (fun w0 => from_any W 1 10000000 w0)
  have OUX := Lib.hid (fun x w0 => from_any x 1 1000000 w0)
  have HE := Lib.hid (show filE W r = if 60 < m then 3 else if oB W 1 10000000 || r.any (fun x => oB x 1 1000000) then 2 else if W - 2 * r.sum < 0 then 4 else 0 by rw [← hl]; rfl)
  by_cases h60 : 60 < m
  · have HEE := Lib.hid (show filE W r = 3 by rw [HE.out, if_pos h60])
    clear hR hl
    go_enter Tryz.func6, Tryz.ntmps6
    go_wp2_with fail
    refine bodyPost_ret (v := .tuple #[.int .i64 0, .slice none 0 0, .int .i64 3]) (by simp [results, Tryz.results6, go_sem]) rfl ?_
    have h := fil_err (W := W) (r := r) (w := w) (by rw [HEE.out]; decide) (Kp.refl No w)
    rw [HEE.out] at h
    exact h
  have hm60 : m ≤ 60 := by omega
  cases ho : oB W 1 10000000
  rotate_left
  · have HEE := Lib.hid (show filE W r = 2 by rw [HE.out, if_neg h60, ho]; rfl)
    rw [ho] at OUT
    clear hR hl ho h60
    go_enter Tryz.func6, Tryz.ntmps6
    go_wp2_with fail
    with_reducible refine (OUT.out _).mono ?_
    rintro e w1 ⟨rfl, hw⟩
    subst hw
    go_wp2_with fail
    refine bodyPost_ret (v := .tuple #[.int .i64 0, .slice none 0 0, .int .i64 2]) (by simp [results, Tryz.results6, go_sem]) rfl ?_
    have h := fil_err (W := W) (r := r) (by rw [HEE.out]; decide) (Kp.refl No w1)
    rw [HEE.out] at h
    exact h
  rw [ho] at OUT
  have hW : 1 ≤ W ∧ W ≤ 10000000 := by
    unfold oB at ho
    simp only [Bool.or_eq_false_iff, decide_eq_false_iff_not] at ho
    omega
  have HBX := Lib.hid (show (∃ x ∈ r, oB x 1 1000000 = true) → filE W r = 2 from fun ⟨x, hx, hq⟩ => by
    rw [HE.out, if_neg h60, ho, if_pos]
    rw [Bool.false_or]
    exact List.any_eq_true.2 ⟨x, hx, hq⟩)
  have HE2 := Lib.hid (show (r.any fun x => oB x 1 1000000) = false → filE W r = if W - 2 * r.sum < 0 then 4 else 0 from fun h => by rw [HE.out, if_neg h60, ho, h]; rfl)
  clear hR hl ho h60 HE
  go_enter Tryz.func6, Tryz.ntmps6
  go_wp2_with fail
  with_reducible refine (OUT.out _).mono ?_
  rintro e w1 ⟨rfl, hw⟩
  subst hw
  clear OUT
  go_wp2_with fail
  go_loop [7] (fun i => ∃ k : Nat, k ≤ m ∧ i = .int .i64 (k : Nat) ∧ ((r.take k).any fun x => oB x 1 1000000) = false) (fun i => m - (intOf i).toNat)
  case atStart => exact ⟨0, by omega, rfl, rfl⟩
  case round =>
    obtain ⟨k, hk, rfl, hno⟩ := hrel
    have HN := Lib.hid hno
    clear hno
    by_cases hlt : k < m
    · obtain ⟨x, hx⟩ : ∃ x, r[k]? = some x := ⟨_, List.getElem?_eq_getElem (by rw [HL.out]; exact hlt)⟩
      obtain ⟨b, o, rfl, hb, hc⟩ := HR.out.2 k x hx
      have HT := Lib.hid (any_take_succ (fun x => oB x 1 1000000) r k x hx)
      have HM := Lib.hid (List.mem_of_getElem? hx)
      have O1 := Lib.hid (OUX.out x)
      cases hq : oB x 1 1000000
      · have HQ := Lib.hid hq
        rw [hq] at O1
        clear hx hq
        go_wp2_with fail
        with_reducible refine (O1.out _).mono ?_
        rintro e w2 ⟨rfl, hw⟩
        subst hw
        go_wp2_with fail
        go_round
        case rel => exact ⟨k + 1, by omega, by go_num, by rw [HT.out, HN.out, HQ.out]; rfl⟩
        case measure => simp [intOf]; omega
      · have HEE := Lib.hid (HBX.out ⟨x, HM.out, hq⟩)
        rw [hq] at O1
        clear hx hq
        go_wp2_with fail
        with_reducible refine (O1.out _).mono ?_
        rintro e w2 ⟨rfl, hw⟩
        subst hw
        go_wp2_with fail
        refine bodyPost_ret (v := .tuple #[.int .i64 0, .slice none 0 0, .int .i64 2]) (by simp [results, Tryz.results6, go_sem]) rfl ?_
        have h := fil_err (W := W) (r := r) (by rw [HEE.out]; decide) (Kp.refl No w2)
        rw [HEE.out] at h
        exact h
    · obtain rfl : k = m := by omega
      have hnb : (r.any fun x => oB x 1 1000000) = false := by
        have h := HN.out
        rwa [List.take_of_length_le (by rw [HL.out]; exact Nat.le_refl _)] at h
      have HE3 := Lib.hid (HE2.out hnb)
      have hrr : ∀ x ∈ r, 1 ≤ x ∧ x ≤ 1000000 := fun x hx => by
        have := List.any_eq_false.1 hnb x hx
        unfold oB at this
        simp only [Bool.or_eq_true, decide_eq_true_eq, not_or] at this
        omega
      have HRR := Lib.hid hrr
      have HBD := Lib.hid (fun j => sum_bd (M := 1000000) (r := r.take j) fun x hx => hrr x (List.mem_of_mem_take hx))
      have GP := Lib.hid (fun w0 h => rgap_any W R k cr r w0 h (by omega) (by omega) fun x hx => by have := hrr x hx; omega)
      have hbd : 0 ≤ r.sum ∧ r.sum ≤ 60000000 := by
        have h := sum_bd (M := 1000000) (r := r) hrr
        rw [HL.out] at h
        omega
      clear HN HBX HE2 hnb hrr OUX
      by_cases hneg : W - 2 * r.sum < 0
      · have HEE := Lib.hid (show filE W r = 4 by rw [HE3.out, if_pos hneg])
        have GP1 := Lib.hid (show ∀ w0, RdI .i64 w0 R k r → Calls Tryz.prog 21 #[.int .i64 W, .slice R k cr] w0 fun e w' => e = .returned (.int .i64 (-1)) ∧ w' = w0 from fun w0 h => by
          have := GP.out w0 h
          rwa [show gapN W r = -1 by unfold gapN; rw [if_pos hneg]] at this)
        clear GP hneg
        go_wp2_with fail
        with_reducible refine (GP1.out _ HR.out).mono ?_
        rintro e w2 ⟨rfl, hw⟩
        subst hw
        go_wp2_with fail
        refine bodyPost_ret (v := .tuple #[.int .i64 0, .slice none 0 0, .int .i64 4]) (by simp [results, Tryz.results6, go_sem]) rfl ?_
        have h := fil_err (W := W) (r := r) (by rw [HEE.out]; decide) (Kp.refl No w2)
        rw [HEE.out] at h
        exact h
      · have HEE := Lib.hid (show filE W r = 0 by rw [HE3.out, if_neg hneg])
        have hge := gap_le (w := W) (r := r) (by omega)
        have HFG := Lib.hid (show filG W r = gapN W r by unfold filG; rw [if_pos HEE.out])
        have HFL := Lib.hid (show filL W r = posN (gapN W r) (filX W r) r by unfold filL; rw [if_pos HEE.out])
        have hfx : filX W r = (W - 2 * r.sum - gapN W r * max ((k : Int) - 1) 0) / 2 := by unfold filX; rw [HL.out]
        have hg7 : gapN W r ≤ 10000000 := by
          have h1 : gapN W r = (W - 2 * r.sum) / ((k : Int) + 1) := by unfold gapN; rw [if_neg hneg, HL.out]
          rw [h1]
          have := Int.ediv_le_self (a := W - 2 * r.sum) ((k : Int) + 1) (by omega)
          omega
        rw [HL.out] at hge
        clear HE3
        generalize gapN W r = G at *
        have hgk : ∀ j : Nat, j ≤ k → 0 ≤ G * j ∧ G * j ≤ 600000000 := fun j hj => by
          refine ⟨Int.mul_nonneg hge.1 (by omega), ?_⟩
          have h1 := Int.mul_le_mul_of_nonneg_right hg7 (show (0 : Int) ≤ j by omega)
          omega
        have HGK := Lib.hid hgk
        obtain ⟨gm, hgm⟩ : ∃ gm, gm = G * max ((k : Int) - 1) 0 := ⟨_, rfl⟩
        have hgm2 : 0 ≤ gm ∧ gm ≤ 600000000 := by
          rw [hgm]
          by_cases h0 : k = 0
          · rw [show max ((k : Int) - 1) 0 = 0 by omega]; omega
          · have := hgk (k - 1) (by omega)
            rw [show max ((k : Int) - 1) 0 = ((k - 1 : Nat) : Int) by omega]
            exact this
        have hwq : 0 ≤ W - 2 * r.sum - gm := by
          have h1 : G * max ((k : Int) - 1) 0 ≤ G * ((k : Int) + 1) := Int.mul_le_mul_of_nonneg_left (by omega) hge.1
          omega
        rw [← hgm] at hfx
        have hfxe : (W - 2 * r.sum - gm) / 2 = filX W r := hfx.symm
        have hxb : 0 ≤ filX W r ∧ filX W r ≤ 10000000 := by omega
        have HGM := Lib.hid hgm
        have HG := Lib.hid hge.1
        clear hgm hfx hge hgk hneg
        generalize filX W r = X at *
        have HRS := Lib.hid (show (r.take k).sum = r.sum by rw [List.take_of_length_le (by rw [HL.out]; exact Nat.le_refl _)])
        generalize hSS : r.sum = SS at *
        have HSS := Lib.hid hSS
        clear hSS
        go_wp2_with fail
        with_reducible refine (GP.out _ HR.out).mono ?_
        rintro e w2 ⟨rfl, hw⟩
        subst hw
        clear GP
        have hg00 := HG.out
        go_wp2_with fail
        clear hg00
        go_loop [9, 10] (fun v i => ∃ j : Nat, j ≤ k ∧ i = .int .i64 (j : Nat) ∧ v = .int .i64 (W - 2 * (r.take j).sum - G * ((j - 1 : Nat) : Int))) (fun _ i => k - (intOf i).toNat)
        case atStart => exact ⟨0, by omega, rfl, by simp⟩
        case round =>
          obtain ⟨j, hj, rfl, rfl⟩ := hrel
          by_cases hlt : j < k
          · obtain ⟨x, hx⟩ : ∃ x, r[j]? = some x := ⟨_, List.getElem?_eq_getElem (by rw [HL.out]; exact hlt)⟩
            obtain ⟨b, o, rfl, hb, hc⟩ := HR.out.2 j x hx
            have hx1 := HRR.out x (List.mem_of_getElem? hx)
            have HT := Lib.hid (sum_take_one hx)
            have hbj := HBD.out j
            have hjl : (r.take j).length ≤ 60 := by rw [List.length_take]; omega
            have hbj2 : 0 ≤ (r.take j).sum ∧ (r.take j).sum ≤ 60000000 := ⟨hbj.1, by omega⟩
            have hgj := HGK.out (j - 1) (by omega)
            have HG1 := Lib.hid (show 0 < j → G * ((j + 1 - 1 : Nat) : Int) = G * ((j - 1 : Nat) : Int) + G from fun h => by
              rw [show ((j + 1 - 1 : Nat) : Int) = ((j - 1 : Nat) : Int) + 1 by omega, Int.mul_add, Int.mul_one])
            have HG0 := Lib.hid (show j = 0 → G * ((j + 1 - 1 : Nat) : Int) = G * ((j - 1 : Nat) : Int) from fun h => by subst h; rfl)
            have hg0 := HG.out
            clear hx hbj
            generalize (r.take j).sum = T at *
            generalize G * ((j - 1 : Nat) : Int) = gj at *
            by_cases h0 : 0 < j
            · have HG2 := Lib.hid (HG1.out h0)
              go_wp2_with fail
              go_round
              case rel => exact ⟨j + 1, by omega, by go_num, by rw [HT.out, HG2.out]; congr 1; omega⟩
              case measure => simp [intOf]; omega
            · have HG2 := Lib.hid (HG0.out (by omega))
              go_wp2_with fail
              go_round
              case rel => exact ⟨j + 1, by omega, by go_num, by rw [HT.out, HG2.out]; congr 1; omega⟩
              case measure => simp [intOf]; omega
          · obtain rfl : j = k := by omega
            have HGE := Lib.hid (show G * ((j - 1 : Nat) : Int) = gm by rw [HGM.out]; congr 1; omega)
            rw [HRS.out, HGE.out]
            have HW1 := Lib.hid (Nat.le_refl w2.heap.size)
            have HPN := Lib.hid (show posN G X (r.take 0) = [] by rw [List.take_zero]; rfl)
            have HPR := Lib.hid (show posN G X (r.take j) = posN G X r by rw [List.take_of_length_le (by rw [HL.out]; exact Nat.le_refl _)])
            have HPL := Lib.hid (fun i => pos_len G X (r.take i))
            have HPT := Lib.hid (fun i a h => pos_take G X r i a h)
            clear hlt
            go_wp2_with fail
            clear hfxe
            go_loopw [12, 11, 13] (fun v x i wr => ∃ (l : Nat) (A : Option Addr) (c : Nat), l ≤ j ∧ i = .int .i64 (l : Nat) ∧ v = .slice A l c ∧ x = .int .i64 (X + 2 * (r.take l).sum + G * l) ∧ OwL wr w2.heap.size (.slice A l c) (posN G X (r.take l)) ∧ Kp No w2 wr) (fun _ _ i _ => j - (intOf i).toNat)
            case atStart => exact ⟨0, none, 0, by omega, rfl, rfl, by simp, by rw [HPN.out]; exact World.ownsRow_nil _ _ _ _, Kp.refl _ _⟩
            case round =>
              obtain ⟨l, A, c, hlj, rfl, rfl, rfl, hown, hkp⟩ := hrel
              have HO := Lib.hid hown
              have HKP := Lib.hid hkp
              have hbj := HBD.out l
              have hjl : (r.take l).length ≤ 60 := by rw [List.length_take]; omega
              have hbj2 : 0 ≤ (r.take l).sum ∧ (r.take l).sum ≤ 60000000 := ⟨hbj.1, by omega⟩
              have hgj := HGK.out l hlj
              clear hown hkp hbj
              by_cases hlt : l < j
              · obtain ⟨x, hx⟩ : ∃ x, r[l]? = some x := ⟨_, List.getElem?_eq_getElem (by rw [HL.out]; exact hlt)⟩
                obtain ⟨b, o, rfl, hb, hc⟩ := (HR.out.no HKP.out).2 l x hx
                have hx1 := HRR.out x (List.mem_of_getElem? hx)
                have HT := Lib.hid (sum_take_one hx)
                have HPJ := Lib.hid (HPT.out l x hx)
                have HLJ := Lib.hid (show (posN G X (r.take l)).length = l by rw [HPL.out, List.length_take, HL.out]; omega)
                have HG1 := Lib.hid (show G * ((l + 1 : Nat) : Int) = G * l + G by rw [Int.natCast_succ, Int.mul_add, Int.mul_one])
                have HX := Lib.hid hx
                clear hx
                generalize (r.take l).sum = T at *
                generalize hgjj : G * (l : Int) = gj at *
                clear hgjj
                have hg0 := HG.out
                go_wp2_with (at_builtin; refine stop_in ?_)
                refine stop_out ?_
                refine push_long rfl _ _ rfl w2.heap.size A l c (posN G X (r.take l)) (X + 2 * T + gj + x) rfl rfl rfl HLJ.out HO.out (by omega) HKP.out (Nat.le_refl _) HKP.out.size ?_
                intro g c' w4 hown' hk4 _
                have HO4 := Lib.hid hown'
                have HK4 := Lib.hid hk4
                obtain ⟨b2, o2, e2, hb2, hc2⟩ := (HR.out.no hk4).2 l x HX.out
                injection e2 with e2
                injection e2 with e2 e3
                subst e2 e3
                clear hown' hk4 hb hc
                go_wp2_with fail
                go_roundw
                case rel =>
                  refine ⟨l + 1, _, c', by omega, by go_num, rfl, ?_, ?_, HK4.out⟩
                  · rw [HT.out, HG1.out]; congr 1; omega
                  · rw [HPJ.out]; exact HO4.out
                case measure => simp [intOf]; omega
              · obtain rfl : l = j := by omega
                go_wp2_with fail
                refine bodyPost_ret (v := .tuple #[.int .i64 G, .slice A l c, .int .i64 0]) (by simp [results, Tryz.results6, go_sem]) rfl ?_
                refine ⟨A, c, ?_, ?_, HKP.out⟩
                · rw [HFG.out, HFL.out, HEE.out, pos_len, HL.out]
                · rw [HFL.out, pos_len, HL.out, ← HPR.out]; exact HO.out
end Go.Proofs.YtakgcnjpmpcekaaGreat
