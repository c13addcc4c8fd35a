/- Chapter 09: Foot: the walk. · Chapter 09: Weight, Least. · Chapter 09: same: two lists of spots. · Chapter 09: the example of awake: what the functions give there. -/
import Derived.BigQuiet
import Derived.Test.YtamjhpdgclbfgaaXFtPM
import Derived.Test.YtamjhpdgclbfgaaXSptM
import Derived.Test.YtamjhpdgclbfgaaXBodM
import Derived.Test.YtamjhpdgclbfgaaXLibHvM
import Derived.Test.YtamjhpdgclbfgaaXQkW
namespace Go.Proofs.Ytamjhpdgclbfgaa
open Go.RowKit Go.Kq

theorem heap_here {w w' : World} {o : Obj} {g : Nat} (hg : g = w.heap.size) (k : Kp No (w.alloc o) w') : w'.heap[g]? = some o := by
  subst hg
  exact k.heap (heap_alloc_new w o) id
set_option maxHeartbeats 8000000 in
set_option maxRecDepth 100000 in
theorem foot_ok (top toe l s : Int) (w : World) (ht : outB toe 0 1000000 = false) (hb : bodyE top l s = false) (h3 : ¬ top < toe) :
    Calls Try.prog 15 #[.int .i64 top, .int .i64 toe, .int .i64 l, .int .i64 s] w fun e w' => e = .returned (.tuple #[.agg #[.int .i64 (piU top + s), .int .i64 (footH top toe l)], .int .i64 0]) ∧ Kp No w w' := by
  have BV : bodyV top l s = (⟨piU top + s, l⟩, 0) := by unfold bodyV; rw [hb]; rfl
  have BC := Lib.hid (fun w0 => Body_any top l s w0)
  rw [BV] at BC
  simp only [Ct.val] at BC
  have OC := Lib.hid (fun w0 => outside_any toe 0 1000000 w0)
  rw [ht] at OC
  unfold bodyE at hb
  rw [Bool.or_eq_false_iff, Bool.or_eq_false_iff] at hb
  have b1 := outB_no hb.1.1
  have b2 := outB_no hb.1.2
  have b3 := outB_no hb.2
  have b4 := outB_no ht
  have hq : 0 ≤ toe ∧ toe ≤ top := by omega
  obtain ⟨r1, r2, r3, r4, r5, r6, r7⟩ := sl_bd b1 b2 hq
  have sl := sl_in ⟨r1, r2⟩
  have hRd : slR top toe l = 4 * l * l + (top - toe) * (top - toe) := rfl
  have hx0 := Int.mul_nonneg (a := top) (b := top - toe) (by omega) (by omega)
  have hx1 := Int.mul_le_mul (a := top) (b := top - toe) (c := 1000000) (d := 1000000) (by omega) (by omega) (by omega) (by omega)
  obtain ⟨x, hx⟩ : ∃ x, x = top * (top - toe) := ⟨_, rfl⟩
  have HF : footH top toe l = slH (slR top toe l) + rnd true (piU (piU x)) (slL (slR top toe l) * 8) := by rw [hx]; rfl
  rw [HF]
  rw [← hx] at hx0 hx1
  obtain ⟨p1, p2, p3, p4, p5⟩ := pi_span (a := x) (b := x) hx0 (Int.le_refl _) (by omega)
  obtain ⟨q1, q2, q3, q4, q5⟩ := pi_span (a := piD x) (b := piU x) p2 p3 (by omega)
  obtain ⟨t1, t2, t3, t4, t5⟩ := pi_span (a := top) (b := top) (by omega) (Int.le_refl _) (by omega)
  obtain ⟨r, hr⟩ : ∃ r, r = slR top toe l := ⟨_, rfl⟩
  rw [← hr] at sl r1 r2 hRd ⊢
  have ONR := Lib.hid (fun w0 => one_any r w0)
  have ONX := Lib.hid (fun w0 => one_any x w0)
  have RT := Lib.hid (fun w0 => Root_ok r.toNat r.toNat w0 (Nat.le_refl _) (by omega))
  rw [Int.toNat_of_nonneg (by omega)] at RT
  have hc := csq_le r.toNat
  obtain ⟨bq1, bq2⟩ := isq_spec r.toNat
  have hcb : csq r.toNat ≤ 80000000 := by have := sl.2.2; unfold slH at this; change -((-((csq r.toNat : Nat) : Int)) / 2) ≤ _ at this; omega
  have S1 := Lib.hid (fun w0 => scale_ok (isq r.toNat : Nat) (csq r.toNat : Nat) 1 2 w0 (by
    unfold ckE
    rw [if_pos (by intro y hy; simp at hy; subst hy; exact ⟨fits_in (by simp) (by simp; omega), fits_in (by simp) (by simp; omega)⟩), if_pos (by intro y hy; simp at hy; subst hy; simp; omega)]) (by omega) (by decide) (by decide))
  have c2 : ((2 : Nat) : Int) = 2 := rfl
  have c1 : ((1 : Nat) : Int) = 1 := rfl
  rw [c2, span_half (by omega) (by omega) (by omega)] at S1
  change Hid (∀ w0, Calls _ _ _ w0 fun e w' => e = .returned (ieV (slL r, slH r, 0)) ∧ _) at S1
  obtain ⟨a, ha⟩ : ∃ a, a = slL r := ⟨_, rfl⟩
  obtain ⟨b, hbb⟩ : ∃ b, b = slH r := ⟨_, rfl⟩
  rw [← ha, ← hbb] at sl S1
  rw [← ha, ← hbb]
  have S2 := Lib.hid (fun w0 => scale_ok a b 8 1 w0 (by
    unfold ckE
    rw [if_pos (by intro y hy; simp at hy; subst hy; exact ⟨fits_in (by simp; omega) (by simp; omega), fits_in (by simp; omega) (by simp; omega)⟩), if_pos (by intro y hy; simp at hy; subst hy; simp; omega)]) (by omega) (by decide) (by decide))
  rw [c1, span_eight (by omega) (by omega) (by omega)] at S2
  have P1 := Lib.hid (fun w0 => pi_ok x x w0 (ck_one x (by omega) (by omega)))
  rw [p1] at P1
  have P2 := Lib.hid (fun w0 => pi_ok (piD x) (piU x) w0 (by
    unfold ckE
    rw [if_pos (by intro y hy; simp at hy; subst hy; exact ⟨fits_in (by simp; omega) (by simp; omega), fits_in (by simp; omega) (by simp; omega)⟩), if_pos (by intro y hy; simp at hy; subst hy; simp; omega)]))
  rw [q1] at P2
  have DV := Lib.hid (fun w0 => div_ok (piD (piD x)) (piU (piU x)) (a * 8).toNat (b * 8).toNat w0 (by omega) (by omega) (by omega) (by omega) (by omega) (by omega))
  rw [Int.toNat_of_nonneg (by omega), Int.toNat_of_nonneg (by omega)] at DV
  have ru := rnd_up (a := piU (piU x)) (d := (a * 8).toNat) (by omega) (by omega)
  rw [Int.toNat_of_nonneg (by omega)] at ru
  have t6 : piU top + s ≤ 5000000 ∧ 0 ≤ piU top + s := by omega
  obtain ⟨mlo, hml⟩ : ∃ y, y = rnd false (piD (piD x)) (b * 8) := ⟨_, rfl⟩
  rw [← hml] at DV
  obtain ⟨mhi, hmh⟩ : ∃ y, y = rnd true (piU (piU x)) (a * 8) := ⟨_, rfl⟩
  rw [← hmh] at DV ru ⊢
  have mb : 0 ≤ mhi ∧ mhi ≤ 16000000000000 := by omega
  clear p1 q1 t1 hml hmh ru c1 c2
  generalize piD (piD x) = y1 at *
  generalize piU (piU x) = y2 at *
  generalize piD x = z1 at *
  generalize piU x = z2 at *
  generalize piU top + s = bw at *
  generalize ((isq r.toNat : Nat) : Int) = i1 at *
  generalize ((csq r.toNat : Nat) : Int) = i2 at *
  simp only [ieV, ivV] at S1 S2 P1 P2 DV RT ONR ONX
  have hab : b ≤ 40000000 ∧ 0 ≤ b := by omega
  clear BV hb ht p2 p3 p4 p5 q2 q3 q4 q5 t2 t3 t4 t5 ha hbb hc bq1 bq2 hcb HF hr sl
  have e8a : a * 8 = 8 * a := by omega
  have e8b : b * 8 = 8 * b := by omega
  rw [e8a, e8b] at S2
  rw [e8a, e8b] at DV
  generalize 8 * a = a8 at *
  generalize 8 * b = b8 at *
  clear e8a e8b
  have hRe : r = 4 * (l * l) + (top - toe) * (top - toe) := by omega
  have HRD := Lib.hid hRe
  have HX := Lib.hid hx
  clear hRd hRe hx
  have hp0 : 0 ≤ top * (top - toe) := by rw [← HX.out]; exact hx0
  have hp1 : top * (top - toe) ≤ 1000000000000 := by rw [← HX.out]; omega
  have hbx0 := Lib.hid (heap_alloc_new w (.cells #[.int .i64 0, .int .i64 0] 35))
  have hk0 : Kp No w (w.alloc (.cells #[.int .i64 0, .int .i64 0] 35)) := Kp.alloc _ _ _
  go_enter Try.func15, Try.ntmps15
  go_wp2_with fail
  with_reducible refine (OC.out _).mono ?_
  rintro e w1 ⟨rfl, hw⟩
  subst hw
  go_wp2_with fail
  with_reducible refine (BC.out _).mono ?_
  rintro e w1 ⟨rfl, k1⟩
  have HK1 := Lib.hid (hk0.tr k1)
  have B0 := Lib.hid (k1.heap hbx0.out id)
  obtain ⟨g0, hg0⟩ : ∃ g, g = w.heap.size := ⟨_, rfl⟩
  rw [← hg0] at B0 ⊢
  have HGW := Lib.hid hg0
  clear hbx0 hk0 k1 hg0
  go_wp2_with fail
  rw [← HRD.out]
  with_reducible refine (ONR.out _).mono ?_
  rintro e w2 ⟨rfl, k2⟩
  obtain ⟨g1, hg1⟩ : ∃ g, g = w1.heap.size := ⟨_, rfl⟩
  have B1 := Lib.hid (heap_here hg1 k2)
  have B0' := Lib.hid (k2.heap ((Kp.alloc No _ _).heap B0.out id) id)
  have HK2 := Lib.hid ((HK1.out.tr (Kp.alloc _ _ _)).tr k2)
  have l01 : g0 < g1 := by have := (Array.getElem?_eq_some_iff.1 B0.out).1; omega
  rw [← hg1]
  clear B0 HK1 hg1 k2
  go_wp2_with fail
  with_reducible refine (RT.out _).mono ?_
  rintro e w3 ⟨rfl, k3⟩
  have B1' := Lib.hid (k3.heap B1.out id)
  have B0 := Lib.hid (k3.heap B0'.out id)
  have HK3 := Lib.hid (HK2.out.tr k3)
  clear B0' B1 HK2 k3
  go_wp2_with fail
  with_reducible refine (S1.out _).mono ?_
  rintro e w4 ⟨rfl, k4⟩
  have B1 := Lib.hid (k4.heap ((Kp.alloc No _ _).heap B1'.out id) id)
  have B0' := Lib.hid (k4.heap ((Kp.alloc No _ _).heap B0.out id) id)
  have HK4 := Lib.hid ((HK3.out.tr (Kp.alloc _ _ _)).tr k4)
  have l13 : g1 < w3.heap.size := (Array.getElem?_eq_some_iff.1 B1'.out).1
  clear B1' B0 HK3 k4
  go_wp2_with fail
  rw [← HX.out]
  with_reducible refine (ONX.out _).mono ?_
  rintro e w5 ⟨rfl, k5⟩
  obtain ⟨g4, hg4⟩ : ∃ g, g = w4.heap.size := ⟨_, rfl⟩
  have B4 := Lib.hid (heap_here hg4 k5)
  have B1' := Lib.hid (k5.heap ((Kp.alloc No _ _).heap B1.out id) id)
  have B0 := Lib.hid (k5.heap ((Kp.alloc No _ _).heap B0'.out id) id)
  have HK5 := Lib.hid ((HK4.out.tr (Kp.alloc _ _ _)).tr k5)
  have l14 : g1 < g4 := by have := (Array.getElem?_eq_some_iff.1 B1.out).1; omega
  rw [← hg4]
  clear B1 B0' HK4 hg4 k5
  go_wp2_with fail
  with_reducible refine (P1.out _).mono ?_
  rintro e w6 ⟨rfl, k6⟩
  have B4' := Lib.hid (k6.heap B4.out id)
  have B1 := Lib.hid (k6.heap B1'.out id)
  have B0' := Lib.hid (k6.heap B0.out id)
  have HK6 := Lib.hid (HK5.out.tr k6)
  clear B4 B1' B0 HK5 k6
  go_wp2_with fail
  with_reducible refine (P2.out _).mono ?_
  rintro e w7 ⟨rfl, k7⟩
  obtain ⟨g6, hg6⟩ : ∃ g, g = w6.heap.size := ⟨_, rfl⟩
  have B6 := Lib.hid (heap_here hg6 k7)
  have B4 := Lib.hid (k7.heap ((Kp.alloc No _ _).heap B4'.out id) id)
  have B1' := Lib.hid (k7.heap ((Kp.alloc No _ _).heap B1.out id) id)
  have B0 := Lib.hid (k7.heap ((Kp.alloc No _ _).heap B0'.out id) id)
  have HK7 := Lib.hid ((HK6.out.tr (Kp.alloc _ _ _)).tr k7)
  have l46 : g4 < g6 := by have := (Array.getElem?_eq_some_iff.1 B4'.out).1; omega
  have wg6 : w.heap.size ≤ g6 := by have := HK6.out.size; omega
  rw [← hg6]
  clear B4' B1 B0' HK6 hg6 k7
  obtain ⟨x0, x1, z0, z1⟩ := two_cells B6.out
  obtain ⟨y0, y1', _, _⟩ := two_cells B4.out
  go_wp2_with fail
  have B6' := Lib.hid (setTwo (.int .i64 y1) (.int .i64 y2) B6.out)
  have KS : Kp (Kq.One g6) w7 ((w7.setCell ⟨g6, 0, none⟩ (.int .i64 y1)).setCell ⟨g6, 1, none⟩ (.int .i64 y2)) := kpTwo _ _ _ _
  have B4' := Lib.hid (KS.heap B4.out (fun e => by unfold Kq.One at e; omega))
  have B1 := Lib.hid (KS.heap B1'.out (fun e => by unfold Kq.One at e; omega))
  have B0' := Lib.hid (KS.heap B0.out (fun e => by unfold Kq.One at e; omega))
  have HKS := Lib.hid (show Kp No w _ from HK7.out.trans KS (fun k hk e => by unfold Kq.One at e; omega))
  generalize (w7.setCell ⟨g6, 0, none⟩ (.int .i64 y1)).setCell ⟨g6, 1, none⟩ (.int .i64 y2) = w8 at *
  clear x0 x1 z0 z1 y0 y1' B6 B4 B1' B0 HK7 KS
  with_reducible refine (S2.out _).mono ?_
  rintro e w9 ⟨rfl, k9⟩
  have B6 := Lib.hid (k9.heap B6'.out id)
  have B4 := Lib.hid (k9.heap B4'.out id)
  have B1' := Lib.hid (k9.heap B1.out id)
  have B0 := Lib.hid (k9.heap B0'.out id)
  have HK9 := Lib.hid (HKS.out.tr k9)
  have l69 : g6 < w9.heap.size := (Array.getElem?_eq_some_iff.1 B6.out).1
  clear B6' B4' B1 B0' HKS k9
  obtain ⟨x0, x1, _, _⟩ := two_cells B6.out
  go_wp2_with fail
  with_reducible refine (DV.out _).mono ?_
  rintro e w10 ⟨rfl, k10⟩
  have B4' := Lib.hid (k10.heap ((Kp.alloc No _ _).heap B4.out id) id)
  have B1 := Lib.hid (k10.heap ((Kp.alloc No _ _).heap B1'.out id) id)
  have B0' := Lib.hid (k10.heap ((Kp.alloc No _ _).heap B0.out id) id)
  have HK10 := Lib.hid ((HK9.out.tr (Kp.alloc _ _ _)).tr k10)
  clear B6 B4 B1' B0 HK9 k10 x0 x1
  obtain ⟨s0, s1, _, _⟩ := two_cells B4'.out
  obtain ⟨u0, u1, zu0, zu1⟩ := two_cells B1.out
  obtain ⟨v0, v1, zv0, zv1⟩ := two_cells B0'.out
  have hz1 : g1 < w10.heap.size := (Array.getElem?_eq_some_iff.1 B1.out).1
  have hz0 : g0 < w10.heap.size := (Array.getElem?_eq_some_iff.1 B0'.out).1
  have hz4 : g4 < w10.heap.size := (Array.getElem?_eq_some_iff.1 B4'.out).1
  go_wp2_with fail
  have f0 : ((((w10.setCell ⟨g1, 1, none⟩ (.int .i64 (b + mhi))).setCell ⟨g0, 0, none⟩ (.int .i64 bw)).setCell ⟨g0, 1, none⟩ (.int .i64 (b + mhi))).alloc (.cells #[.int .i64 mlo, .int .i64 mhi] 40)).cell? ⟨g0, 0, none⟩ = some (.int .i64 bw) := by go_simp
  have f1 : ((((w10.setCell ⟨g1, 1, none⟩ (.int .i64 (b + mhi))).setCell ⟨g0, 0, none⟩ (.int .i64 bw)).setCell ⟨g0, 1, none⟩ (.int .i64 (b + mhi))).alloc (.cells #[.int .i64 mlo, .int .i64 mhi] 40)).cell? ⟨g0, 1, none⟩ = some (.int .i64 (b + mhi)) := by go_simp
  have hgw := HGW.out
  have K3 : Kp (fun k => w.heap.size ≤ k) w10 ((((w10.setCell ⟨g1, 1, none⟩ (.int .i64 (b + mhi))).setCell ⟨g0, 0, none⟩ (.int .i64 bw)).setCell ⟨g0, 1, none⟩ (.int .i64 (b + mhi))).alloc (.cells #[.int .i64 mlo, .int .i64 mhi] 40)) := (((Kp.setCell _ _ ⟨g1, 1, none⟩ _ (fun _ => (by omega : w.heap.size ≤ g1))).tr (Kp.setCell _ _ ⟨g0, 0, none⟩ _ (fun _ => (by omega : w.heap.size ≤ g0)))).tr (Kp.setCell _ _ ⟨g0, 1, none⟩ _ (fun _ => (by omega : w.heap.size ≤ g0)))).tr (Kp.alloc _ _ _)
  have hk11 : Kp No w ((((w10.setCell ⟨g1, 1, none⟩ (.int .i64 (b + mhi))).setCell ⟨g0, 0, none⟩ (.int .i64 bw)).setCell ⟨g0, 1, none⟩ (.int .i64 (b + mhi))).alloc (.cells #[.int .i64 mlo, .int .i64 mhi] 40)) := HK10.out.trans K3 (fun k hk e => by have e : w.heap.size ≤ k := e; omega)
  clear K3 hgw
  generalize ((((w10.setCell ⟨g1, 1, none⟩ (.int .i64 (b + mhi))).setCell ⟨g0, 0, none⟩ (.int .i64 bw)).setCell ⟨g0, 1, none⟩ (.int .i64 (b + mhi))).alloc (.cells #[.int .i64 mlo, .int .i64 mhi] 40)) = w11 at f0 f1 hk11 ⊢
  exact bodyPost_ret (v := .tuple #[.agg #[.int .i64 bw, .int .i64 (b + mhi)], .int .i64 0]) (by simp [results, Try.results15, go_sem, f0, f1]) rfl ⟨rfl, hk11⟩
set_option maxHeartbeats 4000000 in
theorem Foot_any (top toe l s : Int) (w : World) : Calls Try.prog 15 #[.int .i64 top, .int .i64 toe, .int .i64 l, .int .i64 s] w fun e w' => e = .returned (.tuple #[(footV top toe l s).1.val, .int .i64 (footV top toe l s).2]) ∧ Kp No w w' := by
  have OC := Lib.hid (fun w0 => outside_any toe 0 1000000 w0)
  have hk0 : Kp No w (w.alloc (.cells #[.int .i64 0, .int .i64 0] 35)) := Kp.alloc _ _ _
  have p0 : (w.alloc (.cells #[.int .i64 0, .int .i64 0] 35)).cell? ⟨w.heap.size, 0, none⟩ = some (.int .i64 0) := by go_simp
  have p1 : (w.alloc (.cells #[.int .i64 0, .int .i64 0] 35)).cell? ⟨w.heap.size, 1, none⟩ = some (.int .i64 0) := by go_simp
  cases ht : outB toe 0 1000000 with
  | true =>
    rw [ht] at OC
    rw [show footV top toe l s = (⟨0, 0⟩, 2) by unfold footV; rw [ht]; rfl]
    clear ht
    simp only [Ct.val]
    go_enter Try.func15, Try.ntmps15
    go_wp2_with fail
    with_reducible refine (OC.out _).mono ?_
    rintro e w1 ⟨rfl, hw⟩
    subst hw
    go_wp2_with fail
    exact bodyPost_ret (v := .tuple #[.agg #[.int .i64 0, .int .i64 0], .int .i64 2]) (by simp [results, Try.results15, go_sem, p0, p1]) rfl ⟨rfl, hk0⟩
  | false =>
  cases hb : bodyE top l s with
  | true =>
    rw [ht] at OC
    have BC := Lib.hid (fun w0 => Body_any top l s w0)
    rw [show bodyV top l s = (⟨0, 0⟩, 2) by unfold bodyV; rw [hb]; rfl] at BC
    rw [show footV top toe l s = (⟨0, 0⟩, 2) by unfold footV; rw [ht, hb]; rfl]
    clear ht hb
    simp only [Ct.val] at BC ⊢
    go_enter Try.func15, Try.ntmps15
    go_wp2_with fail
    with_reducible refine (OC.out _).mono ?_
    rintro e w1 ⟨rfl, hw⟩
    subst hw
    go_wp2_with fail
    with_reducible refine (BC.out _).mono ?_
    rintro e w1 ⟨rfl, k1⟩
    have HK1 := Lib.hid (hk0.tr k1)
    have B0 := Lib.hid (k1.heap (heap_alloc_new w (.cells #[.int .i64 0, .int .i64 0] 35)) id)
    obtain ⟨g0, hg0⟩ : ∃ g, g = w.heap.size := ⟨_, rfl⟩
    rw [← hg0] at B0 ⊢
    have HGW := Lib.hid hg0
    have hz0 : g0 < w1.heap.size := (Array.getElem?_eq_some_iff.1 B0.out).1
    obtain ⟨v0, v1, zv0, zv1⟩ := two_cells B0.out
    clear hk0 k1 hg0 B0 p0 p1
    go_wp2_with fail
    have f0 : (((w1.setCell ⟨g0, 0, none⟩ (.int .i64 0)).setCell ⟨g0, 1, none⟩ (.int .i64 0)).alloc (.cells #[.int .i64 0, .int .i64 0] 35)).cell? ⟨g0, 0, none⟩ = some (.int .i64 0) := by go_simp
    have f1 : (((w1.setCell ⟨g0, 0, none⟩ (.int .i64 0)).setCell ⟨g0, 1, none⟩ (.int .i64 0)).alloc (.cells #[.int .i64 0, .int .i64 0] 35)).cell? ⟨g0, 1, none⟩ = some (.int .i64 0) := by go_simp
    have hk3 : Kp No w (((w1.setCell ⟨g0, 0, none⟩ (.int .i64 0)).setCell ⟨g0, 1, none⟩ (.int .i64 0)).alloc (.cells #[.int .i64 0, .int .i64 0] 35)) := (kp_set2 HK1.out (by rw [HGW.out]; exact Nat.le_refl _)).tr (Kp.alloc _ _ _)
    generalize (((w1.setCell ⟨g0, 0, none⟩ (.int .i64 0)).setCell ⟨g0, 1, none⟩ (.int .i64 0)).alloc (.cells #[.int .i64 0, .int .i64 0] 35)) = w3 at f0 f1 hk3 ⊢
    exact bodyPost_ret (v := .tuple #[.agg #[.int .i64 0, .int .i64 0], .int .i64 2]) (by simp [results, Try.results15, go_sem, f0, f1]) rfl ⟨rfl, hk3⟩
  | false =>
  by_cases h3 : top < toe
  · rw [ht] at OC
    have BC := Lib.hid (fun w0 => Body_any top l s w0)
    rw [show bodyV top l s = (⟨piU top + s, l⟩, 0) by unfold bodyV; rw [hb]; rfl] at BC
    rw [show footV top toe l s = (⟨0, 0⟩, 7) by unfold footV; rw [ht, hb, if_pos h3]; rfl]
    generalize piU top + s = bw at BC
    clear ht hb
    simp only [Ct.val] at BC ⊢
    go_enter Try.func15, Try.ntmps15
    go_wp2_with fail
    with_reducible refine (OC.out _).mono ?_
    rintro e w1 ⟨rfl, hw⟩
    subst hw
    go_wp2_with fail
    with_reducible refine (BC.out _).mono ?_
    rintro e w1 ⟨rfl, k1⟩
    have HK1 := Lib.hid (hk0.tr k1)
    have B0 := Lib.hid (k1.heap (heap_alloc_new w (.cells #[.int .i64 0, .int .i64 0] 35)) id)
    obtain ⟨g0, hg0⟩ : ∃ g, g = w.heap.size := ⟨_, rfl⟩
    rw [← hg0] at B0 ⊢
    have HGW := Lib.hid hg0
    have hz0 : g0 < w1.heap.size := (Array.getElem?_eq_some_iff.1 B0.out).1
    obtain ⟨v0, v1, zv0, zv1⟩ := two_cells B0.out
    clear hk0 k1 hg0 B0 p0 p1
    go_wp2_with fail
    have f0 : (((w1.setCell ⟨g0, 0, none⟩ (.int .i64 0)).setCell ⟨g0, 1, none⟩ (.int .i64 0)).alloc (.cells #[.int .i64 bw, .int .i64 l] 35)).cell? ⟨g0, 0, none⟩ = some (.int .i64 0) := by go_simp
    have f1 : (((w1.setCell ⟨g0, 0, none⟩ (.int .i64 0)).setCell ⟨g0, 1, none⟩ (.int .i64 0)).alloc (.cells #[.int .i64 bw, .int .i64 l] 35)).cell? ⟨g0, 1, none⟩ = some (.int .i64 0) := by go_simp
    have hk3 : Kp No w (((w1.setCell ⟨g0, 0, none⟩ (.int .i64 0)).setCell ⟨g0, 1, none⟩ (.int .i64 0)).alloc (.cells #[.int .i64 bw, .int .i64 l] 35)) := (kp_set2 HK1.out (by rw [HGW.out]; exact Nat.le_refl _)).tr (Kp.alloc _ _ _)
    generalize (((w1.setCell ⟨g0, 0, none⟩ (.int .i64 0)).setCell ⟨g0, 1, none⟩ (.int .i64 0)).alloc (.cells #[.int .i64 bw, .int .i64 l] 35)) = w3 at f0 f1 hk3 ⊢
    exact bodyPost_ret (v := .tuple #[.agg #[.int .i64 0, .int .i64 0], .int .i64 7]) (by simp [results, Try.results15, go_sem, f0, f1]) rfl ⟨rfl, hk3⟩
  · rw [show footV top toe l s = (⟨piU top + s, footH top toe l⟩, 0) by unfold footV; rw [ht, hb, if_neg h3]; rfl]
    exact foot_ok top toe l s w ht hb h3
end Go.Proofs.Ytamjhpdgclbfgaa

namespace Go.Proofs.Ytamjhpdgclbfgaa
open Go.RowKit Go.Kq

def wgtE (a t d : Int) : Bool := outB a 0 100000000000000000 || outB t 1 10000 || outB d 1 30000
def wgtV (a t d : Int) : Int × Int × Int := if wgtE a t d then (0, 0, 2) else spanV 1000000000000 (a * (t * d)) [a * (t * d)]
set_option maxHeartbeats 4000000 in
theorem Weight_any (a t d : Int) (w : World) : Calls Try.prog 23 #[.int .i64 a, .int .i64 t, .int .i64 d] w fun e w' => e = .returned (ieV (wgtV a t d)) ∧ Kp No w w' := by
  have O1 := Lib.hid (fun w0 => outside_any a 0 100000000000000000 w0)
  have O2 := Lib.hid (fun w0 => outside_any t 1 10000 w0)
  have O3 := Lib.hid (fun w0 => outside_any d 1 30000 w0)
  have HV := Lib.hid (show wgtV a t d = if wgtE a t d then (0, 0, 2) else spanV 1000000000000 (a * (t * d)) [a * (t * d)] from rfl)
  have HB : wgtE a t d = (outB a 0 100000000000000000 || outB t 1 10000 || outB d 1 30000) := rfl
  have hq1 : outB a 0 100000000000000000 = false → 0 ≤ a ∧ a ≤ 100000000000000000 := outB_no
  have hq2 : outB t 1 10000 = false → 1 ≤ t ∧ t ≤ 10000 := outB_no
  have hq3 : outB d 1 30000 = false → 1 ≤ d ∧ d ≤ 30000 := outB_no
  generalize wgtE a t d = be at *
  generalize outB a 0 100000000000000000 = q1 at *
  generalize outB t 1 10000 = q2 at *
  generalize outB d 1 30000 = q3 at *
  have HK0 := Lib.hid (show Kp No w (w.alloc (.cells #[.int .i64 0, .int .i64 0] 40)) from Kp.alloc _ _ _)
  have p0 : (w.alloc (.cells #[.int .i64 0, .int .i64 0] 40)).cell? ⟨w.heap.size, 0, none⟩ = some (.int .i64 0) := by go_simp
  have p1 : (w.alloc (.cells #[.int .i64 0, .int .i64 0] 40)).cell? ⟨w.heap.size, 1, none⟩ = some (.int .i64 0) := by go_simp
  simp only [HV.out, ieV, ivV]
  clear HV
  cases q1
  rotate_left
  · obtain rfl : be = true := by rw [HB]; rfl
    rw [if_pos rfl]
    clear HB hq1 hq2 hq3
    go_enter Try.func23, Try.ntmps23
    go_wp2_with fail
    with_reducible refine (O1.out _).mono ?_
    rintro e w1 ⟨rfl, hw⟩
    subst hw
    go_wp2_with fail
    exact bodyPost_ret (v := .tuple #[.agg #[.int .i64 0, .int .i64 0], .int .i64 2]) (by simp [results, Try.results23, go_sem, p0, p1]) rfl ⟨rfl, HK0.out⟩
  cases q2
  rotate_left
  · obtain rfl : be = true := by rw [HB]; rfl
    rw [if_pos rfl]
    clear HB hq1 hq2 hq3
    go_enter Try.func23, Try.ntmps23
    go_wp2_with fail
    with_reducible refine (O1.out _).mono ?_
    rintro e w1 ⟨rfl, hw⟩
    subst hw
    go_wp2_with fail
    with_reducible refine (O2.out _).mono ?_
    rintro e w1 ⟨rfl, hw⟩
    subst hw
    go_wp2_with fail
    exact bodyPost_ret (v := .tuple #[.agg #[.int .i64 0, .int .i64 0], .int .i64 2]) (by simp [results, Try.results23, go_sem, p0, p1]) rfl ⟨rfl, HK0.out⟩
  cases q3
  rotate_left
  · obtain rfl : be = true := by rw [HB]; rfl
    rw [if_pos rfl]
    clear HB hq1 hq2 hq3
    go_enter Try.func23, Try.ntmps23
    go_wp2_with fail
    with_reducible refine (O1.out _).mono ?_
    rintro e w1 ⟨rfl, hw⟩
    subst hw
    go_wp2_with fail
    with_reducible refine (O2.out _).mono ?_
    rintro e w1 ⟨rfl, hw⟩
    subst hw
    go_wp2_with fail
    with_reducible refine (O3.out _).mono ?_
    rintro e w1 ⟨rfl, hw⟩
    subst hw
    go_wp2_with fail
    exact bodyPost_ret (v := .tuple #[.agg #[.int .i64 0, .int .i64 0], .int .i64 2]) (by simp [results, Try.results23, go_sem, p0, p1]) rfl ⟨rfl, HK0.out⟩
  obtain rfl : be = false := by rw [HB]; rfl
  rw [if_neg (by decide)]
  have b1 := hq1 rfl
  have b2 := hq2 rfl
  have b3 := hq3 rfl
  have ht : 1 ≤ t * d ∧ t * d ≤ 300000000 := by
    constructor
    · have := Int.mul_le_mul b2.1 b3.1 (by omega) (by omega)
      omega
    · have := Int.mul_le_mul b2.2 b3.2 (by omega) (by omega)
      omega
  have S1 := Lib.hid (fun w0 => scale_ok a a (t * d) 1000000000000 w0 (ck_one a (by omega) (by omega)) (by omega) (by decide) (by unfold fits M62; simp; omega))
  have ce : ((1000000000000 : Nat) : Int) = 1000000000000 := rfl
  rw [ce] at S1
  generalize spanV 1000000000000 (a * (t * d)) [a * (t * d)] = sv at *
  obtain ⟨v1, v2, v3⟩ := sv
  simp only [ieV, ivV] at S1
  have ON := Lib.hid (fun w0 => one_any a w0)
  simp only [ivV] at ON
  clear HB hq1 hq2 hq3 ce
  go_enter Try.func23, Try.ntmps23
  go_wp2_with fail
  with_reducible refine (O1.out _).mono ?_
  rintro e w1 ⟨rfl, hw⟩
  subst hw
  go_wp2_with fail
  with_reducible refine (O2.out _).mono ?_
  rintro e w1 ⟨rfl, hw⟩
  subst hw
  go_wp2_with fail
  with_reducible refine (O3.out _).mono ?_
  rintro e w1 ⟨rfl, hw⟩
  subst hw
  go_wp2_with fail
  with_reducible refine (ON.out _).mono ?_
  rintro e w1 ⟨rfl, k1⟩
  go_wp2_with fail
  with_reducible refine (S1.out _).mono ?_
  rintro e w2 ⟨rfl, k2⟩
  have k02 := k1.tr k2
  have HK2 := Lib.hid (HK0.out.tr k02)
  have g2 := k02.heap (heap_alloc_new w (.cells #[.int .i64 0, .int .i64 0] 40)) id
  obtain ⟨g0, g1, z0, z1⟩ := two_cells g2
  have hs : w.heap.size < w2.heap.size := World.block_lt_of_cell? _ _ g0
  clear k1 k2 p0 p1 g2
  go_wp2_with fail
  have f0 : ((w2.setCell ⟨w.heap.size, 0, none⟩ (.int .i64 v1)).setCell ⟨w.heap.size, 1, none⟩ (.int .i64 v2)).cell? ⟨w.heap.size, 0, none⟩ = some (.int .i64 v1) := by go_simp
  have f1 : ((w2.setCell ⟨w.heap.size, 0, none⟩ (.int .i64 v1)).setCell ⟨w.heap.size, 1, none⟩ (.int .i64 v2)).cell? ⟨w.heap.size, 1, none⟩ = some (.int .i64 v2) := by go_simp
  have hk3 : Kp No w ((w2.setCell ⟨w.heap.size, 0, none⟩ (.int .i64 v1)).setCell ⟨w.heap.size, 1, none⟩ (.int .i64 v2)) := kp_set2 HK2.out (Nat.le_refl _)
  generalize ((w2.setCell ⟨w.heap.size, 0, none⟩ (.int .i64 v1)).setCell ⟨w.heap.size, 1, none⟩ (.int .i64 v2)) = w3 at f0 f1 hk3 ⊢
  exact bodyPost_ret (v := .tuple #[.agg #[.int .i64 v1, .int .i64 v2], .int .i64 v3]) (by simp [results, Try.results23, go_sem, f0, f1]) rfl ⟨rfl, hk3⟩
end Go.Proofs.Ytamjhpdgclbfgaa

namespace Go.Proofs.Ytamjhpdgclbfgaa
open Go.RowKit Go.Kq

def eqS (a b : Spo) : Bool := a.p == b.p && a.s == b.s && a.x == b.x && a.y == b.y
theorem eqS_iff (a b : Spo) : eqS a b = true ↔ a = b := by
  obtain ⟨a1, a2, a3, a4⟩ := a
  obtain ⟨b1, b2, b3, b4⟩ := b
  simp [eqS, and_assoc]
set_option maxHeartbeats 2000000 in
theorem spo_equal (w : World) (a b : Spo) : (Op.equalIn 10000 52 a.val b.val).run Try.prog w = .ok (eqS a b) w := by
  have hS : Try.prog.underlying 52 = some (.struct (Try.prog.fieldsOf 52)) := by kernel_rfl
  have hp : Try.prog.stoodInHeld 52 = false := by kernel_rfl
  have u3 := Try.underlying3
  have u2 := Try.underlying2
  obtain ⟨a0, a1, a2, a3⟩ := a
  obtain ⟨b0, b1, b2, b3⟩ := b
  simp only [Spo.val, eqS]
  rw [show (10000 : Nat) = 9999 + 1 from rfl, run_equalIn_agg w 9999 52 _ _ hS hp]
  simp only [Program.fieldsOf, Try.underlying52]
  go_simp
  by_cases h0 : a0 = b0 <;> by_cases h1 : a1 = b1 <;> by_cases h2 : a2 = b2 <;> by_cases h3 : a3 = b3 <;> simp [h0, h1, h2, h3]
theorem take_ext {α : Type} {a b : List α} {k : Nat} {x : α} (h : a.take k = b.take k) (hx : a[k]? = some x) (hy : b[k]? = some x) : a.take (k + 1) = b.take (k + 1) := by
  rw [List.take_add_one, List.take_add_one, h, hx, hy]
set_option maxHeartbeats 4000000 in
set_option maxRecDepth 100000 in
theorem same_any (A : Option Addr) (n ca : Nat) (a : List Spo) (B : Option Addr) (m cb : Nat) (b : List Spo) (w : World) (hx : RdS w A n a) (hy : RdS w B m b) (hn : n ≤ 100000000) :
    Calls Try.prog 11 #[.slice A n ca, .slice B m cb] w fun e w' => e = .returned (.bool (decide (a = b))) ∧ Kp No w w' := by
  have HX := Lib.hid hx
  have HY := Lib.hid hy
  have HN := Lib.hid hx.1
  have HM := Lib.hid hy.1
  clear hx hy
  by_cases hnm : n = m
  rotate_left
  · have hne : decide (a = b) = false := decide_eq_false fun e => hnm (by rw [← HN.out, ← HM.out, e])
    rw [hne]
    go_enter Try.func11, Try.ntmps11
    go_wp2_with fail
    go_ret
    exact ⟨rfl, Kp.refl _ _⟩
  subst hnm
  have HD := Lib.hid (show decide (a = b) = decide (a = b) from rfl)
  generalize hq : decide (a = b) = q at HD ⊢
  have HQ := Lib.hid hq
  clear hq HD
  go_enter Try.func11, Try.ntmps11
  go_wp2_with fail
  go_loopw [5] (fun i wr => ∃ k : Nat, k ≤ n ∧ i = .int .i64 k ∧ a.take k = b.take k ∧ Kp No w wr) (fun i _ => n - (intOf i).toNat)
  case atStart => exact ⟨0, by omega, rfl, rfl, Kp.refl _ _⟩
  case round =>
    obtain ⟨k, hk, rfl, ht, hkp⟩ := hrel
    have HT := Lib.hid ht
    have HK := Lib.hid hkp
    clear ht hkp
    by_cases hlt : k < n
    · obtain ⟨x, hv⟩ : ∃ x, a[k]? = some x := ⟨_, List.getElem?_eq_getElem (by rw [HN.out]; exact hlt)⟩
      obtain ⟨y, hu⟩ : ∃ y, b[k]? = some y := ⟨_, List.getElem?_eq_getElem (by rw [HM.out]; exact hlt)⟩
      obtain ⟨g, o, rfl, hb, hc⟩ := (HX.out.no HK.out).2 k x hv
      obtain ⟨g', o', rfl, hb', hd⟩ := (HY.out.no HK.out).2 k y hu
      have c0 := hc 0 _ rfl
      have c1 := hc 1 _ rfl
      have c2 := hc 2 _ rfl
      have c3 := hc 3 _ rfl
      have d0 := hd 0 _ rfl
      have d1 := hd 1 _ rfl
      have d2 := hd 2 _ rfl
      have d3 := hd 3 _ rfl
      simp only [Nat.add_zero] at c0 d0
      have HV := Lib.hid hv
      have HU := Lib.hid hu
      have hse : ∀ w', (Op.equalIn 10000 52 x.val y.val).run Try.prog w' = .ok (eqS x y) w' := fun w' => spo_equal w' x y
      clear hv hu hc hd
      simp only [Spo.val] at hse
      cases he : eqS x y with
      | true =>
        rw [he] at hse
        obtain rfl := (eqS_iff x y).1 he
        clear he
        go_wp2_with fail
        go_quiet (fail)
        go_wp2_with fail
        go_roundw
        case rel => exact ⟨k + 1, by omega, by go_num, take_ext HT.out HV.out HU.out, HK.out.tr (Kp.drewN _ _ _)⟩
        case measure => simp [intOf]; omega
      | false =>
        rw [he] at hse
        have HNE := Lib.hid (show a ≠ b from fun e => by
          have h1 := HV.out
          rw [e, HU.out] at h1
          cases h1
          have := (eqS_iff x x).2 rfl
          rw [he] at this
          cases this)
        clear he
        go_wp2_with fail
        go_quiet (fail)
        go_wp2_with fail
        go_ret
        exact ⟨by rw [← HQ.out, decide_eq_false HNE.out]; rfl, HK.out.tr (Kp.drewN _ _ _)⟩
    · obtain rfl : k = n := by omega
      go_wp2_with fail
      go_ret
      refine ⟨?_, HK.out⟩
      have ht := HT.out
      rw [List.take_of_length_le (by rw [HN.out]; omega), List.take_of_length_le (by rw [HM.out]; omega)] at ht
      rw [← HQ.out, decide_eq_true ht]
      rfl
end Go.Proofs.Ytamjhpdgclbfgaa

namespace Go.Proofs.Ytamjhpdgclbfgaa
open Go.RowKit Go.Kq

def exL : List Ct := [⟨4, 4⟩, ⟨9, 5⟩, ⟨5, 3⟩]
def exP : Pt := ⟨10, 10, 0⟩
theorem ex_body : bodyV 100000 1000000 5000 = (⟨319160, 1000000⟩, 0) := by kernel_rfl
theorem ex_wgt : wgtV 1000000000000 1000 11340 = (11340000, 11340000, 0) := by kernel_rfl
theorem ex_lst : lstV exP [⟨5, 8⟩, ⟨5, 8⟩, ⟨5, 8⟩] = (2, 0) := by kernel_rfl
theorem ex_nesE : nesE exP exL = 0 := by kernel_rfl
theorem ex_nesL : nesL exP exL = [⟨0, 0, 0, 0⟩, ⟨0, 1, 0, 4⟩, ⟨0, 0, 4, 0⟩] := by
  unfold nesL
  rw [if_pos ex_nesE]
  exact nest_ex
theorem ex_chk : jchk exP exL 200 = 0 := by kernel_rfl
theorem ex_big : exL.any (bigC exP) = false := by kernel_rfl
theorem ex_quick : (quickG exP exL (ordI exL)).out = [⟨0, 1, 0, 5⟩, ⟨0, 0, 0, 0⟩, ⟨0, 1, 4, 5⟩] := by kernel_rfl
theorem ex_isq : isq 170000000000 = 412310 := (isq_unique (r := 412310) (by decide) (by decide)).symm
theorem ex_slr : (slR 100000 0 200000).toNat = 170000000000 := by kernel_rfl
theorem ex_csq : csq 170000000000 = 412311 := by
  unfold csq
  rw [ex_isq]
  rfl
theorem ex_footH : footH 100000 0 200000 = 266000 := by
  unfold footH slH slL
  rw [ex_slr, ex_isq, ex_csq]
  kernel_rfl
theorem ex_foot : footV 100000 0 200000 0 = (⟨314160, 266000⟩, 0) := by
  unfold footV
  rw [ex_footH]
  kernel_rfl
theorem ct_equal (w : World) (a b c d : Int) : (Op.equalIn 10000 35 (.agg #[.int .i64 a, .int .i64 b]) (.agg #[.int .i64 c, .int .i64 d])).run Try.prog w = .ok (a == c && b == d) w := by
  have hS : Try.prog.underlying 35 = some (.struct (Try.prog.fieldsOf 35)) := by kernel_rfl
  have hp : Try.prog.stoodInHeld 35 = false := by kernel_rfl
  have u2 := Try.underlying2
  rw [show (10000 : Nat) = 9999 + 1 from rfl, run_equalIn_agg w 9999 35 _ _ hS hp]
  simp only [Program.fieldsOf, Try.underlying35]
  go_simp
  by_cases h0 : a = c <;> by_cases h1 : b = d <;> simp [h0, h1]
theorem iv_equal (w : World) (a b c d : Int) : (Op.equalIn 10000 40 (.agg #[.int .i64 a, .int .i64 b]) (.agg #[.int .i64 c, .int .i64 d])).run Try.prog w = .ok (a == c && b == d) w := by
  have hS : Try.prog.underlying 40 = some (.struct (Try.prog.fieldsOf 40)) := by kernel_rfl
  have hp : Try.prog.stoodInHeld 40 = false := by kernel_rfl
  have u2 := Try.underlying2
  rw [show (10000 : Nat) = 9999 + 1 from rfl, run_equalIn_agg w 9999 40 _ _ hS hp]
  simp only [Program.fieldsOf, Try.underlying40]
  go_simp
  by_cases h0 : a = c <;> by_cases h1 : b = d <;> simp [h0, h1]
def SpF (L : List Spo) (w : World) (u : Value) : Prop := ∃ g, u = .slice (some ⟨g, 0, none⟩) 3 3 ∧ RdS w (some ⟨g, 0, none⟩) 3 L
theorem SpF.no {L : List Spo} {w w' : World} {u : Value} (h : SpF L w u) (k : Kp No w w') : SpF L w' u := by
  obtain ⟨g, h1, h2⟩ := h
  exact ⟨g, h1, h2.no k⟩
theorem rds3 (w : World) (a b c : Spo) : SpF [a, b, c] (w.alloc (.cells #[.int .i64 a.p, .int .i64 a.s, .int .i64 a.x, .int .i64 a.y, .int .i64 b.p, .int .i64 b.s, .int .i64 b.x, .int .i64 b.y, .int .i64 c.p, .int .i64 c.s, .int .i64 c.x, .int .i64 c.y] 52)) (.slice (some ⟨w.heap.size, 0, none⟩) 3 3) :=
  ⟨_, rfl, Rd.of_own (base := 0) (e := 52) (cap := 3) spo_len (by decide) (own_made (s := 4) (n := 3) (xs := [a, b, c].flatMap Spo.cells) w rfl (Nat.zero_le _) (by unfold maxLen; omega))⟩
theorem rdc3 (w : World) (a b c : Ct) : RdC (w.alloc (.cells #[.int .i64 a.w, .int .i64 a.h, .int .i64 b.w, .int .i64 b.h, .int .i64 c.w, .int .i64 c.h] 35)) (some ⟨w.heap.size, 0, none⟩) 3 [a, b, c] :=
  Rd.of_own (base := 0) (e := 35) (cap := 3) ct_len (by decide) (own_made (s := 2) (n := 3) (xs := [a, b, c].flatMap Ct.cells) w rfl (Nat.zero_le _) (by unfold maxLen; omega))
end Go.Proofs.Ytamjhpdgclbfgaa
