/- Chapter 09: plain: the reference's least number of plates in two steps is the program's. · Chapter 09: the reference's plate and Least: the walks. -/
import Derived.Test.YtamjhpdgclbfgaaXLstM
import Derived.Test.YtamjhpdgclbfgaaXRfA
namespace Go.Proofs.Ytamjhpdgclbfgaa
open Go.RowKit Go.Kq

theorem ceil_two (n a b : Int) (hb : 0 < b) : (n + a * b - 1) / (a * b) = ((n + b - 1) / b + a - 1) / a := by
  have e1 : a * b = b * a := Int.mul_comm _ _
  have e2 : n + a * b - 1 = (n + b - 1) + b * (a - 1) := by
    rw [Int.mul_sub, e1]
    omega
  rw [e2, e1, ← Int.ediv_ediv_of_nonneg (by omega), Int.add_mul_ediv_left _ _ (by omega)]
  congr 1
  omega
end Go.Proofs.Ytamjhpdgclbfgaa

namespace Go.Proofs.Ytamjhpdgclbfgaa
open Go.RowKit Go.Kq

set_option maxHeartbeats 4000000 in
theorem plate_any (P : Pt) (A : Option Addr) (n ca : Nat) (l : List Ct) (m : Int) (w : World) (hx : RdC w A n l) (hn : n ≤ 100000000) :
    Calls Try.prog 29 #[P.val, .slice A n ca, .int .i64 m] w fun e w' => e = .returned (.int .i64 (jchk P l m)) ∧ Kp No w w' := by
  have HX := Lib.hid hx
  have HW := Lib.hid (fun w0 => valid_any ⟨P.w, P.h⟩ w0)
  have HO := Lib.hid (fun w0 => from_any P.k 0 50000 w0)
  have HC := Lib.hid (fun w0 (k : Kp No w w0) => cuts_any A n ca l m w0 (hx.no k) hn)
  have HJ := Lib.hid (show jchk P l m = if m < (n : Int) then 3 else if badC ⟨P.w, P.h⟩ || outB P.k 0 50000 || l.any badC then 2 else 0 by unfold jchk jbad; rw [hx.1])
  have HE := Lib.hid (show cutE l m = if m < (n : Int) then 3 else if l.any badC then 2 else 0 by unfold cutE; rw [hx.1])
  clear hx
  obtain ⟨jr, hjr⟩ : ∃ jr, jchk P l m = jr := ⟨_, rfl⟩
  rw [hjr] at HJ ⊢
  clear hjr
  simp only [Ct.val] at HW
  unfold Pt.val
  generalize badC ⟨P.w, P.h⟩ = q1 at *
  generalize outB P.k 0 50000 = q2 at *
  generalize l.any badC = q3 at *
  clear HX
  have hk0 : Kp No w (w.alloc (.cells #[.int .i64 P.w, .int .i64 P.h, .int .i64 P.k] 23)) := Kp.alloc _ _ _
  have hbx : (w.alloc (.cells #[.int .i64 P.w, .int .i64 P.h, .int .i64 P.k] 23)).heap[w.heap.size]? = some (.cells #[.int .i64 P.w, .int .i64 P.h, .int .i64 P.k] 23 (0, 0)) := heap_alloc_new _ _
  go_enter Try.func29, Try.ntmps29
  by_cases hm : m < (n : Int)
  · rw [if_pos hm] at HJ
    clear HE
    go_wp2_with fail
    go_ret
    exact ⟨ret_i64 HJ.out.symm, hk0⟩
  rw [if_neg hm] at HE HJ
  go_wp2_with fail
  with_reducible refine (HW.out _).mono ?_
  rintro e w1 ⟨rfl, k1⟩
  have hbx1 := k1.heap hbx id
  obtain ⟨gb, hgb⟩ : ∃ gb, gb = w.heap.size := ⟨_, rfl⟩
  rw [← hgb] at hbx1 ⊢
  have b2 : w1.cell? ⟨gb, 2, none⟩ = some (.int .i64 P.k) := by rw [cell_of_row _ _ _ _ _ _ hbx1]; rfl
  have HK := Lib.hid (hk0.tr k1)
  clear hbx hbx1 hgb k1 hk0
  cases q1
  rotate_left
  · have HJ2 := Lib.hid (show jr = 2 by rw [HJ.out]; simp)
    go_wp2_with fail
    go_ret
    exact ⟨ret_i64 HJ2.out.symm, HK.out⟩
  go_wp2_with fail
  with_reducible refine (HO.out _).mono ?_
  rintro e w2 ⟨rfl, hw⟩
  subst hw
  cases q2
  rotate_left
  · have HJ2 := Lib.hid (show jr = 2 by rw [HJ.out]; simp)
    go_wp2_with fail
    go_ret
    exact ⟨ret_i64 HJ2.out.symm, HK.out⟩
  go_wp2_with fail
  with_reducible refine (HC.out _ HK.out).mono ?_
  rintro e w2 ⟨rfl, k2⟩
  have K2 := Lib.hid (HK.out.tr k2)
  clear k2 HK b2 hm
  have HF := Lib.hid (show cutE l m = jr by rw [HE.out, HJ.out]; rfl)
  clear HE HJ
  go_wp2_with fail
  go_ret
  exact ⟨ret_i64 HF.out, K2.out⟩
theorem div_go {a b : Int} (ha : 0 ≤ a) (_hb : 0 < b) : Int.tdiv a b = a / b := Int.tdiv_eq_ediv_of_nonneg ha
set_option maxHeartbeats 4000000 in
theorem rLeast_any (P : Pt) (A : Option Addr) (n ca : Nat) (l : List Ct) (w : World) (hx : RdC w A n l) (hn : n ≤ 100000000) :
    Calls Try.prog 18 #[P.val, .slice A n ca] w fun e w' => e = .returned (.tuple #[.int .i64 (lstV P l).1, .int .i64 (lstV P l).2]) ∧ Kp No w w' := by
  have hk0 : Kp No w (w.alloc (.cells #[.int .i64 P.w, .int .i64 P.h, .int .i64 P.k] 23)) := Kp.alloc _ _ _
  have hbx : (w.alloc (.cells #[.int .i64 P.w, .int .i64 P.h, .int .i64 P.k] 23)).heap[w.heap.size]? = some (.cells #[.int .i64 P.w, .int .i64 P.h, .int .i64 P.k] 23 (0, 0)) := heap_alloc_new _ _
  have HC := Lib.hid (plate_any P A n ca l 200 _ (hx.no hk0) hn)
  have HV := Lib.hid (show lstV P l = if jchk P l 200 = 0 then ((sumA P.k l + (P.w + P.k) * (P.h + P.k) - 1) / ((P.w + P.k) * (P.h + P.k)), 0) else (0, jchk P l 200) from rfl)
  have HX := Lib.hid hx
  have HL := Lib.hid hx.1
  clear hx
  unfold Pt.val at HC ⊢
  rw [HV.out]
  clear HV
  by_cases hc : jchk P l 200 = 0
  rotate_left
  · rw [if_neg hc]
    generalize jchk P l 200 = c at *
    have hcn : (c != 0) = true := by rw [bne_iff_ne]; exact hc
    clear HX HL hbx
    go_enter Try.func18, Try.ntmps18
    go_wp2_with fail
    with_reducible refine HC.out.mono ?_
    rintro e w1 ⟨rfl, k1⟩
    go_wp2_with fail
    exact bodyPost_ret (v := .tuple #[.int .i64 0, .int .i64 c]) (by simp [results, Try.results18, go_sem]) rfl ⟨rfl, hk0.tr k1⟩
  have J := Lib.hid (job_ok hc)
  rw [if_pos hc]
  rw [hc] at HC
  have ha := area_bd J.out.w J.out.h J.out.k
  have hb := sumA_bd J.out.k l J.out.cut
  have hl := J.out.len
  have hkk := J.out.k
  have hww := J.out.w
  have hhh := J.out.h
  have hn2 : n ≤ 200 := by have := HL.out; omega
  have HD := Lib.hid (show (sumA P.k l + (P.w + P.k) * (P.h + P.k) - 1) / ((P.w + P.k) * (P.h + P.k)) = ((sumA P.k l + P.h + P.k - 1) / (P.h + P.k) + P.w + P.k - 1) / (P.w + P.k) by
    rw [ceil_two _ _ _ (by omega)]
    have e1 : sumA P.k l + (P.h + P.k) - 1 = sumA P.k l + P.h + P.k - 1 := by omega
    rw [e1]
    have e2 : (sumA P.k l + P.h + P.k - 1) / (P.h + P.k) + (P.w + P.k) - 1 = (sumA P.k l + P.h + P.k - 1) / (P.h + P.k) + P.w + P.k - 1 := by omega
    rw [e2])
  rw [HD.out]
  have hq0 : 0 ≤ (sumA P.k l + P.h + P.k - 1) / (P.h + P.k) := Int.ediv_nonneg (by omega) (by omega)
  have hq1 : (sumA P.k l + P.h + P.k - 1) / (P.h + P.k) ≤ sumA P.k l + P.h + P.k - 1 := Int.ediv_le_self _ (by omega)
  have hs : sumA P.k l ≤ 80400500000000000 := by omega
  clear hc HD ha
  go_enter Try.func18, Try.ntmps18
  go_wp2_with fail
  with_reducible refine HC.out.mono ?_
  rintro e w1 ⟨rfl, k1⟩
  obtain ⟨gp, hgp⟩ : ∃ gp, gp = w.heap.size := ⟨_, rfl⟩
  rw [← hgp] at hbx ⊢
  have HB := Lib.hid (k1.heap hbx id)
  have HK := Lib.hid (hk0.tr k1)
  clear HC hbx hgp hk0 k1
  go_wp2_with fail
  go_loopw [7, 8] (fun v7 v20 wr => ∃ k : Nat, k ≤ n ∧ v20 = .int .i64 k ∧ v7 = .int .i64 (sumA P.k (l.take k)) ∧ Kp No w1 wr) (fun _ v20 _ => n - (intOf v20).toNat)
  case atStart => exact ⟨0, by omega, rfl, rfl, Kp.refl _ _⟩
  case round =>
    obtain ⟨k, hk, rfl, rfl, hkp⟩ := hrel
    have HB1 := Lib.hid (hkp.heap HB.out id)
    have b0 : wr.cell? ⟨gp, 0, none⟩ = some (.int .i64 P.w) := by rw [cell_of_row _ _ _ _ _ _ HB1.out]; rfl
    have b1 : wr.cell? ⟨gp, 1, none⟩ = some (.int .i64 P.h) := by rw [cell_of_row _ _ _ _ _ _ HB1.out]; rfl
    have b2 : wr.cell? ⟨gp, 2, none⟩ = some (.int .i64 P.k) := by rw [cell_of_row _ _ _ _ _ _ HB1.out]; rfl
    have HK1 := Lib.hid (HK.out.tr hkp)
    have HKP := Lib.hid hkp
    clear hkp
    by_cases hlt : k < n
    · obtain ⟨c, hv⟩ : ∃ c, l[k]? = some c := ⟨_, List.getElem?_eq_getElem (by rw [HL.out]; exact hlt)⟩
      have hcb := J.out.cut c (List.mem_of_getElem? hv)
      obtain ⟨b, o, rfl, hb', hc'⟩ := (HX.out.no HK1.out).2 k c hv
      have c0 := hc' 0 _ rfl
      have c1 := hc' 1 _ rfl
      simp only [Nat.add_zero] at c0
      have HS := Lib.hid (show sumA P.k (l.take (k + 1)) = sumA P.k (l.take k) + (c.w + P.k) * (c.h + P.k) by rw [List.take_add_one, hv]; exact sumA_snoc _ _ _)
      have h1 := sumA_bd J.out.k (l.take k) fun d hd => J.out.cut d (List.mem_of_mem_take hd)
      have h2 := area_bd hcb.1 hcb.2 J.out.k
      have h3 : (l.take k).length = k := by rw [List.length_take, HL.out]; omega
      rw [h3] at h1
      have h5 : (k : Int) ≤ 200 := by omega
      have hw0 : IntKind.i64.wrap (c.w + P.k) = c.w + P.k := IntWalk.i64_in _ (by omega)
      have hw3 : IntKind.i64.wrap (c.h + P.k) = c.h + P.k := IntWalk.i64_in _ (by omega)
      have hw1 : IntKind.i64.wrap ((c.w + P.k) * (c.h + P.k)) = (c.w + P.k) * (c.h + P.k) := IntWalk.i64_in _ (by omega)
      have hw2 : IntKind.i64.wrap (sumA P.k (l.take k) + (c.w + P.k) * (c.h + P.k)) = sumA P.k (l.take k) + (c.w + P.k) * (c.h + P.k) := IntWalk.i64_in _ (by omega)
      clear hv hc'
      go_wp2_with fail
      go_quiet (fail)
      go_wp2_with fail
      go_roundw
      case rel => exact ⟨k + 1, by omega, by go_num, by rw [HS.out], HKP.out.tr (Kp.drewN _ _ _)⟩
      case measure => simp [intOf]; omega
    · obtain rfl : k = n := by omega
      have HT := Lib.hid (show l.take k = l by rw [List.take_of_length_le (by rw [HL.out]; omega)])
      rw [HT.out]
      go_wp2_with fail
      exact bodyPost_ret (v := .tuple #[.int .i64 (((sumA P.k l + P.h + P.k - 1) / (P.h + P.k) + P.w + P.k - 1) / (P.w + P.k)), .int .i64 0]) (by simp [results, Try.results18, go_sem]) rfl ⟨rfl, HK1.out⟩
end Go.Proofs.Ytamjhpdgclbfgaa
