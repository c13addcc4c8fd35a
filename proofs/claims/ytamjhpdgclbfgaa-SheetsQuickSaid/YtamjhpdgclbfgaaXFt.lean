/- Chapter 09: Foot: the walk. -/
import Derived.Test.YtamjhpdgclbfgaaXFtPM
import Derived.Test.YtamjhpdgclbfgaaXSptM
namespace Go.Proofs.Ytamjhpdgclbfgaa
open Go.RowKit Go.Kq

theorem heap_here {w w' : World} {o : Obj} {g : Nat} (hg : g = w.heap.size) (k : Kp No (w.alloc o) w') : w'.heap[g]? = some o := by
  subst hg
  exact k.heap (heap_alloc_new w o) id
set_option maxHeartbeats 8000000 in
set_option maxRecDepth 100000 in
theorem foot_ok (top toe l s : Int) (w : World) (ht : outB toe 0 1000000 = false) (hb : bodyE top l s = false) (h3 : ¬ top < toe) :
    Calls Try.prog 15 #[.int .i64 top, .int .i64 toe, .int .i64 l, .int .i64 s] w fun e w' => e = .returned (.tuple #[.agg #[.int .i64 (piU top + s), .int .i64 (footH top toe l)], .int .i64 0]) ∧ Kp No w w' := by
  have BV : bodyV top l s = (⟨piU top + s, l⟩, 0) := by unfold bodyV; rw [hb]; rfl
  have BC := Lib.hid (fun w0 => Body_any top l s w0)
  rw [BV] at BC
  simp only [Ct.val] at BC
  have OC := Lib.hid (fun w0 => outside_any toe 0 1000000 w0)
  rw [ht] at OC
  unfold bodyE at hb
  rw [Bool.or_eq_false_iff, Bool.or_eq_false_iff] at hb
  have b1 := outB_no hb.1.1
  have b2 := outB_no hb.1.2
  have b3 := outB_no hb.2
  have b4 := outB_no ht
  have hq : 0 ≤ toe ∧ toe ≤ top := by omega
  obtain ⟨r1, r2, r3, r4, r5, r6, r7⟩ := sl_bd b1 b2 hq
  have sl := sl_in ⟨r1, r2⟩
  have hRd : slR top toe l = 4 * l * l + (top - toe) * (top - toe) := rfl
  have hx0 := Int.mul_nonneg (a := top) (b := top - toe) (by omega) (by omega)
  have hx1 := Int.mul_le_mul (a := top) (b := top - toe) (c := 1000000) (d := 1000000) (by omega) (by omega) (by omega) (by omega)
  obtain ⟨x, hx⟩ : ∃ x, x = top * (top - toe) := ⟨_, rfl⟩
  have HF : footH top toe l = slH (slR top toe l) + rnd true (piU (piU x)) (slL (slR top toe l) * 8) := by rw [hx]; rfl
  rw [HF]
  rw [← hx] at hx0 hx1
  obtain ⟨p1, p2, p3, p4, p5⟩ := pi_span (a := x) (b := x) hx0 (Int.le_refl _) (by omega)
  obtain ⟨q1, q2, q3, q4, q5⟩ := pi_span (a := piD x) (b := piU x) p2 p3 (by omega)
  obtain ⟨t1, t2, t3, t4, t5⟩ := pi_span (a := top) (b := top) (by omega) (Int.le_refl _) (by omega)
  obtain ⟨r, hr⟩ : ∃ r, r = slR top toe l := ⟨_, rfl⟩
  rw [← hr] at sl r1 r2 hRd ⊢
  have ONR := Lib.hid (fun w0 => one_any r w0)
  have ONX := Lib.hid (fun w0 => one_any x w0)
  have RT := Lib.hid (fun w0 => Root_ok r.toNat r.toNat w0 (Nat.le_refl _) (by omega))
  rw [Int.toNat_of_nonneg (by omega)] at RT
  have hc := csq_le r.toNat
  obtain ⟨bq1, bq2⟩ := isq_spec r.toNat
  have hcb : csq r.toNat ≤ 80000000 := by have := sl.2.2; unfold slH at this; change -((-((csq r.toNat : Nat) : Int)) / 2) ≤ _ at this; omega
  have S1 := Lib.hid (fun w0 => scale_ok (isq r.toNat : Nat) (csq r.toNat : Nat) 1 2 w0 (by
    unfold ckE
    rw [if_pos (by intro y hy; simp at hy; subst hy; exact ⟨fits_in (by simp) (by simp; omega), fits_in (by simp) (by simp; omega)⟩), if_pos (by intro y hy; simp at hy; subst hy; simp; omega)]) (by omega) (by decide) (by decide))
  have c2 : ((2 : Nat) : Int) = 2 := rfl
  have c1 : ((1 : Nat) : Int) = 1 := rfl
  rw [c2, span_half (by omega) (by omega) (by omega)] at S1
  change Hid (∀ w0, Calls _ _ _ w0 fun e w' => e = .returned (ieV (slL r, slH r, 0)) ∧ _) at S1
  obtain ⟨a, ha⟩ : ∃ a, a = slL r := ⟨_, rfl⟩
  obtain ⟨b, hbb⟩ : ∃ b, b = slH r := ⟨_, rfl⟩
  rw [← ha, ← hbb] at sl S1
  rw [← ha, ← hbb]
  have S2 := Lib.hid (fun w0 => scale_ok a b 8 1 w0 (by
    unfold ckE
    rw [if_pos (by intro y hy; simp at hy; subst hy; exact ⟨fits_in (by simp; omega) (by simp; omega), fits_in (by simp; omega) (by simp; omega)⟩), if_pos (by intro y hy; simp at hy; subst hy; simp; omega)]) (by omega) (by decide) (by decide))
  rw [c1, span_eight (by omega) (by omega) (by omega)] at S2
  have P1 := Lib.hid (fun w0 => pi_ok x x w0 (ck_one x (by omega) (by omega)))
  rw [p1] at P1
  have P2 := Lib.hid (fun w0 => pi_ok (piD x) (piU x) w0 (by
    unfold ckE
    rw [if_pos (by intro y hy; simp at hy; subst hy; exact ⟨fits_in (by simp; omega) (by simp; omega), fits_in (by simp; omega) (by simp; omega)⟩), if_pos (by intro y hy; simp at hy; subst hy; simp; omega)]))
  rw [q1] at P2
  have DV := Lib.hid (fun w0 => div_ok (piD (piD x)) (piU (piU x)) (a * 8).toNat (b * 8).toNat w0 (by omega) (by omega) (by omega) (by omega) (by omega) (by omega))
  rw [Int.toNat_of_nonneg (by omega), Int.toNat_of_nonneg (by omega)] at DV
  have ru := rnd_up (a := piU (piU x)) (d := (a * 8).toNat) (by omega) (by omega)
  rw [Int.toNat_of_nonneg (by omega)] at ru
  have t6 : piU top + s ≤ 5000000 ∧ 0 ≤ piU top + s := by omega
  obtain ⟨mlo, hml⟩ : ∃ y, y = rnd false (piD (piD x)) (b * 8) := ⟨_, rfl⟩
  rw [← hml] at DV
  obtain ⟨mhi, hmh⟩ : ∃ y, y = rnd true (piU (piU x)) (a * 8) := ⟨_, rfl⟩
  rw [← hmh] at DV ru ⊢
  have mb : 0 ≤ mhi ∧ mhi ≤ 16000000000000 := by omega
  clear p1 q1 t1 hml hmh ru c1 c2
  generalize piD (piD x) = y1 at *
  generalize piU (piU x) = y2 at *
  generalize piD x = z1 at *
  generalize piU x = z2 at *
  generalize piU top + s = bw at *
  generalize ((isq r.toNat : Nat) : Int) = i1 at *
  generalize ((csq r.toNat : Nat) : Int) = i2 at *
  simp only [ieV, ivV] at S1 S2 P1 P2 DV RT ONR ONX
  have hab : b ≤ 40000000 ∧ 0 ≤ b := by omega
  clear BV hb ht p2 p3 p4 p5 q2 q3 q4 q5 t2 t3 t4 t5 ha hbb hc bq1 bq2 hcb HF hr sl
  have e8a : a * 8 = 8 * a := by omega
  have e8b : b * 8 = 8 * b := by omega
  rw [e8a, e8b] at S2
  rw [e8a, e8b] at DV
  generalize 8 * a = a8 at *
  generalize 8 * b = b8 at *
  clear e8a e8b
  have hRe : r = 4 * (l * l) + (top - toe) * (top - toe) := by omega
  have HRD := Lib.hid hRe
  have HX := Lib.hid hx
  clear hRd hRe hx
  have hp0 : 0 ≤ top * (top - toe) := by rw [← HX.out]; exact hx0
  have hp1 : top * (top - toe) ≤ 1000000000000 := by rw [← HX.out]; omega
  have hbx0 := Lib.hid (heap_alloc_new w (.cells #[.int .i64 0, .int .i64 0] 35))
  have hk0 : Kp No w (w.alloc (.cells #[.int .i64 0, .int .i64 0] 35)) := Kp.alloc _ _ _
  go_enter Try.func15, Try.ntmps15
  go_wp2_with fail
  with_reducible refine (OC.out _).mono ?_
  rintro e w1 ⟨rfl, hw⟩
  subst hw
  go_wp2_with fail
  with_reducible refine (BC.out _).mono ?_
  rintro e w1 ⟨rfl, k1⟩
  have HK1 := Lib.hid (hk0.tr k1)
  have B0 := Lib.hid (k1.heap hbx0.out id)
  obtain ⟨g0, hg0⟩ : ∃ g, g = w.heap.size := ⟨_, rfl⟩
  rw [← hg0] at B0 ⊢
  have HGW := Lib.hid hg0
  clear hbx0 hk0 k1 hg0
  go_wp2_with fail
  rw [← HRD.out]
  with_reducible refine (ONR.out _).mono ?_
  rintro e w2 ⟨rfl, k2⟩
  obtain ⟨g1, hg1⟩ : ∃ g, g = w1.heap.size := ⟨_, rfl⟩
  have B1 := Lib.hid (heap_here hg1 k2)
  have B0' := Lib.hid (k2.heap ((Kp.alloc No _ _).heap B0.out id) id)
  have HK2 := Lib.hid ((HK1.out.tr (Kp.alloc _ _ _)).tr k2)
  have l01 : g0 < g1 := by have := (Array.getElem?_eq_some_iff.1 B0.out).1; omega
  rw [← hg1]
  clear B0 HK1 hg1 k2
  go_wp2_with fail
  with_reducible refine (RT.out _).mono ?_
  rintro e w3 ⟨rfl, k3⟩
  have B1' := Lib.hid (k3.heap B1.out id)
  have B0 := Lib.hid (k3.heap B0'.out id)
  have HK3 := Lib.hid (HK2.out.tr k3)
  clear B0' B1 HK2 k3
  go_wp2_with fail
  with_reducible refine (S1.out _).mono ?_
  rintro e w4 ⟨rfl, k4⟩
  have B1 := Lib.hid (k4.heap ((Kp.alloc No _ _).heap B1'.out id) id)
  have B0' := Lib.hid (k4.heap ((Kp.alloc No _ _).heap B0.out id) id)
  have HK4 := Lib.hid ((HK3.out.tr (Kp.alloc _ _ _)).tr k4)
  have l13 : g1 < w3.heap.size := (Array.getElem?_eq_some_iff.1 B1'.out).1
  clear B1' B0 HK3 k4
  go_wp2_with fail
  rw [← HX.out]
  with_reducible refine (ONX.out _).mono ?_
  rintro e w5 ⟨rfl, k5⟩
  obtain ⟨g4, hg4⟩ : ∃ g, g = w4.heap.size := ⟨_, rfl⟩
  have B4 := Lib.hid (heap_here hg4 k5)
  have B1' := Lib.hid (k5.heap ((Kp.alloc No _ _).heap B1.out id) id)
  have B0 := Lib.hid (k5.heap ((Kp.alloc No _ _).heap B0'.out id) id)
  have HK5 := Lib.hid ((HK4.out.tr (Kp.alloc _ _ _)).tr k5)
  have l14 : g1 < g4 := by have := (Array.getElem?_eq_some_iff.1 B1.out).1; omega
  rw [← hg4]
  clear B1 B0' HK4 hg4 k5
  go_wp2_with fail
  with_reducible refine (P1.out _).mono ?_
  rintro e w6 ⟨rfl, k6⟩
  have B4' := Lib.hid (k6.heap B4.out id)
  have B1 := Lib.hid (k6.heap B1'.out id)
  have B0' := Lib.hid (k6.heap B0.out id)
  have HK6 := Lib.hid (HK5.out.tr k6)
  clear B4 B1' B0 HK5 k6
  go_wp2_with fail
  with_reducible refine (P2.out _).mono ?_
  rintro e w7 ⟨rfl, k7⟩
  obtain ⟨g6, hg6⟩ : ∃ g, g = w6.heap.size := ⟨_, rfl⟩
  have B6 := Lib.hid (heap_here hg6 k7)
  have B4 := Lib.hid (k7.heap ((Kp.alloc No _ _).heap B4'.out id) id)
  have B1' := Lib.hid (k7.heap ((Kp.alloc No _ _).heap B1.out id) id)
  have B0 := Lib.hid (k7.heap ((Kp.alloc No _ _).heap B0'.out id) id)
  have HK7 := Lib.hid ((HK6.out.tr (Kp.alloc _ _ _)).tr k7)
  have l46 : g4 < g6 := by have := (Array.getElem?_eq_some_iff.1 B4'.out).1; omega
  have wg6 : w.heap.size ≤ g6 := by have := HK6.out.size; omega
  rw [← hg6]
  clear B4' B1 B0' HK6 hg6 k7
  obtain ⟨x0, x1, z0, z1⟩ := two_cells B6.out
  obtain ⟨y0, y1', _, _⟩ := two_cells B4.out
  go_wp2_with fail
  have B6' := Lib.hid (setTwo (.int .i64 y1) (.int .i64 y2) B6.out)
  have KS : Kp (Kq.One g6) w7 ((w7.setCell ⟨g6, 0, none⟩ (.int .i64 y1)).setCell ⟨g6, 1, none⟩ (.int .i64 y2)) := kpTwo _ _ _ _
  have B4' := Lib.hid (KS.heap B4.out (fun e => by unfold Kq.One at e; omega))
  have B1 := Lib.hid (KS.heap B1'.out (fun e => by unfold Kq.One at e; omega))
  have B0' := Lib.hid (KS.heap B0.out (fun e => by unfold Kq.One at e; omega))
  have HKS := Lib.hid (show Kp No w _ from HK7.out.trans KS (fun k hk e => by unfold Kq.One at e; omega))
  generalize (w7.setCell ⟨g6, 0, none⟩ (.int .i64 y1)).setCell ⟨g6, 1, none⟩ (.int .i64 y2) = w8 at *
  clear x0 x1 z0 z1 y0 y1' B6 B4 B1' B0 HK7 KS
  with_reducible refine (S2.out _).mono ?_
  rintro e w9 ⟨rfl, k9⟩
  have B6 := Lib.hid (k9.heap B6'.out id)
  have B4 := Lib.hid (k9.heap B4'.out id)
  have B1' := Lib.hid (k9.heap B1.out id)
  have B0 := Lib.hid (k9.heap B0'.out id)
  have HK9 := Lib.hid (HKS.out.tr k9)
  have l69 : g6 < w9.heap.size := (Array.getElem?_eq_some_iff.1 B6.out).1
  clear B6' B4' B1 B0' HKS k9
  obtain ⟨x0, x1, _, _⟩ := two_cells B6.out
  go_wp2_with fail
  with_reducible refine (DV.out _).mono ?_
  rintro e w10 ⟨rfl, k10⟩
  have B4' := Lib.hid (k10.heap ((Kp.alloc No _ _).heap B4.out id) id)
  have B1 := Lib.hid (k10.heap ((Kp.alloc No _ _).heap B1'.out id) id)
  have B0' := Lib.hid (k10.heap ((Kp.alloc No _ _).heap B0.out id) id)
  have HK10 := Lib.hid ((HK9.out.tr (Kp.alloc _ _ _)).tr k10)
  clear B6 B4 B1' B0 HK9 k10 x0 x1
  obtain ⟨s0, s1, _, _⟩ := two_cells B4'.out
  obtain ⟨u0, u1, zu0, zu1⟩ := two_cells B1.out
  obtain ⟨v0, v1, zv0, zv1⟩ := two_cells B0'.out
  have hz1 : g1 < w10.heap.size := (Array.getElem?_eq_some_iff.1 B1.out).1
  have hz0 : g0 < w10.heap.size := (Array.getElem?_eq_some_iff.1 B0'.out).1
  have hz4 : g4 < w10.heap.size := (Array.getElem?_eq_some_iff.1 B4'.out).1
  go_wp2_with fail
  have f0 : ((((w10.setCell ⟨g1, 1, none⟩ (.int .i64 (b + mhi))).setCell ⟨g0, 0, none⟩ (.int .i64 bw)).setCell ⟨g0, 1, none⟩ (.int .i64 (b + mhi))).alloc (.cells #[.int .i64 mlo, .int .i64 mhi] 40)).cell? ⟨g0, 0, none⟩ = some (.int .i64 bw) := by go_simp
  have f1 : ((((w10.setCell ⟨g1, 1, none⟩ (.int .i64 (b + mhi))).setCell ⟨g0, 0, none⟩ (.int .i64 bw)).setCell ⟨g0, 1, none⟩ (.int .i64 (b + mhi))).alloc (.cells #[.int .i64 mlo, .int .i64 mhi] 40)).cell? ⟨g0, 1, none⟩ = some (.int .i64 (b + mhi)) := by go_simp
  have hgw := HGW.out
  have K3 : Kp (fun k => w.heap.size ≤ k) w10 ((((w10.setCell ⟨g1, 1, none⟩ (.int .i64 (b + mhi))).setCell ⟨g0, 0, none⟩ (.int .i64 bw)).setCell ⟨g0, 1, none⟩ (.int .i64 (b + mhi))).alloc (.cells #[.int .i64 mlo, .int .i64 mhi] 40)) := (((Kp.setCell _ _ ⟨g1, 1, none⟩ _ (fun _ => (by omega : w.heap.size ≤ g1))).tr (Kp.setCell _ _ ⟨g0, 0, none⟩ _ (fun _ => (by omega : w.heap.size ≤ g0)))).tr (Kp.setCell _ _ ⟨g0, 1, none⟩ _ (fun _ => (by omega : w.heap.size ≤ g0)))).tr (Kp.alloc _ _ _)
  have hk11 : Kp No w ((((w10.setCell ⟨g1, 1, none⟩ (.int .i64 (b + mhi))).setCell ⟨g0, 0, none⟩ (.int .i64 bw)).setCell ⟨g0, 1, none⟩ (.int .i64 (b + mhi))).alloc (.cells #[.int .i64 mlo, .int .i64 mhi] 40)) := HK10.out.trans K3 (fun k hk e => by have e : w.heap.size ≤ k := e; omega)
  clear K3 hgw
  generalize ((((w10.setCell ⟨g1, 1, none⟩ (.int .i64 (b + mhi))).setCell ⟨g0, 0, none⟩ (.int .i64 bw)).setCell ⟨g0, 1, none⟩ (.int .i64 (b + mhi))).alloc (.cells #[.int .i64 mlo, .int .i64 mhi] 40)) = w11 at f0 f1 hk11 ⊢
  exact bodyPost_ret (v := .tuple #[.agg #[.int .i64 bw, .int .i64 (b + mhi)], .int .i64 0]) (by simp [results, Try.results15, go_sem, f0, f1]) rfl ⟨rfl, hk11⟩
set_option maxHeartbeats 4000000 in
theorem Foot_any (top toe l s : Int) (w : World) : Calls Try.prog 15 #[.int .i64 top, .int .i64 toe, .int .i64 l, .int .i64 s] w fun e w' => e = .returned (.tuple #[(footV top toe l s).1.val, .int .i64 (footV top toe l s).2]) ∧ Kp No w w' := by
  have OC := Lib.hid (fun w0 => outside_any toe 0 1000000 w0)
  have hk0 : Kp No w (w.alloc (.cells #[.int .i64 0, .int .i64 0] 35)) := Kp.alloc _ _ _
  have p0 : (w.alloc (.cells #[.int .i64 0, .int .i64 0] 35)).cell? ⟨w.heap.size, 0, none⟩ = some (.int .i64 0) := by go_simp
  have p1 : (w.alloc (.cells #[.int .i64 0, .int .i64 0] 35)).cell? ⟨w.heap.size, 1, none⟩ = some (.int .i64 0) := by go_simp
  cases ht : outB toe 0 1000000 with
  | true =>
    rw [ht] at OC
    rw [show footV top toe l s = (⟨0, 0⟩, 2) by unfold footV; rw [ht]; rfl]
    clear ht
    simp only [Ct.val]
    go_enter Try.func15, Try.ntmps15
    go_wp2_with fail
    with_reducible refine (OC.out _).mono ?_
    rintro e w1 ⟨rfl, hw⟩
    subst hw
    go_wp2_with fail
    exact bodyPost_ret (v := .tuple #[.agg #[.int .i64 0, .int .i64 0], .int .i64 2]) (by simp [results, Try.results15, go_sem, p0, p1]) rfl ⟨rfl, hk0⟩
  | false =>
  cases hb : bodyE top l s with
  | true =>
    rw [ht] at OC
    have BC := Lib.hid (fun w0 => Body_any top l s w0)
    rw [show bodyV top l s = (⟨0, 0⟩, 2) by unfold bodyV; rw [hb]; rfl] at BC
    rw [show footV top toe l s = (⟨0, 0⟩, 2) by unfold footV; rw [ht, hb]; rfl]
    clear ht hb
    simp only [Ct.val] at BC ⊢
    go_enter Try.func15, Try.ntmps15
    go_wp2_with fail
    with_reducible refine (OC.out _).mono ?_
    rintro e w1 ⟨rfl, hw⟩
    subst hw
    go_wp2_with fail
    with_reducible refine (BC.out _).mono ?_
    rintro e w1 ⟨rfl, k1⟩
    have HK1 := Lib.hid (hk0.tr k1)
    have B0 := Lib.hid (k1.heap (heap_alloc_new w (.cells #[.int .i64 0, .int .i64 0] 35)) id)
    obtain ⟨g0, hg0⟩ : ∃ g, g = w.heap.size := ⟨_, rfl⟩
    rw [← hg0] at B0 ⊢
    have HGW := Lib.hid hg0
    have hz0 : g0 < w1.heap.size := (Array.getElem?_eq_some_iff.1 B0.out).1
    obtain ⟨v0, v1, zv0, zv1⟩ := two_cells B0.out
    clear hk0 k1 hg0 B0 p0 p1
    go_wp2_with fail
    have f0 : (((w1.setCell ⟨g0, 0, none⟩ (.int .i64 0)).setCell ⟨g0, 1, none⟩ (.int .i64 0)).alloc (.cells #[.int .i64 0, .int .i64 0] 35)).cell? ⟨g0, 0, none⟩ = some (.int .i64 0) := by go_simp
    have f1 : (((w1.setCell ⟨g0, 0, none⟩ (.int .i64 0)).setCell ⟨g0, 1, none⟩ (.int .i64 0)).alloc (.cells #[.int .i64 0, .int .i64 0] 35)).cell? ⟨g0, 1, none⟩ = some (.int .i64 0) := by go_simp
    have hk3 : Kp No w (((w1.setCell ⟨g0, 0, none⟩ (.int .i64 0)).setCell ⟨g0, 1, none⟩ (.int .i64 0)).alloc (.cells #[.int .i64 0, .int .i64 0] 35)) := (kp_set2 HK1.out (by rw [HGW.out]; exact Nat.le_refl _)).tr (Kp.alloc _ _ _)
    generalize (((w1.setCell ⟨g0, 0, none⟩ (.int .i64 0)).setCell ⟨g0, 1, none⟩ (.int .i64 0)).alloc (.cells #[.int .i64 0, .int .i64 0] 35)) = w3 at f0 f1 hk3 ⊢
    exact bodyPost_ret (v := .tuple #[.agg #[.int .i64 0, .int .i64 0], .int .i64 2]) (by simp [results, Try.results15, go_sem, f0, f1]) rfl ⟨rfl, hk3⟩
  | false =>
  by_cases h3 : top < toe
  · rw [ht] at OC
    have BC := Lib.hid (fun w0 => Body_any top l s w0)
    rw [show bodyV top l s = (⟨piU top + s, l⟩, 0) by unfold bodyV; rw [hb]; rfl] at BC
    rw [show footV top toe l s = (⟨0, 0⟩, 7) by unfold footV; rw [ht, hb, if_pos h3]; rfl]
    generalize piU top + s = bw at BC
    clear ht hb
    simp only [Ct.val] at BC ⊢
    go_enter Try.func15, Try.ntmps15
    go_wp2_with fail
    with_reducible refine (OC.out _).mono ?_
    rintro e w1 ⟨rfl, hw⟩
    subst hw
    go_wp2_with fail
    with_reducible refine (BC.out _).mono ?_
    rintro e w1 ⟨rfl, k1⟩
    have HK1 := Lib.hid (hk0.tr k1)
    have B0 := Lib.hid (k1.heap (heap_alloc_new w (.cells #[.int .i64 0, .int .i64 0] 35)) id)
    obtain ⟨g0, hg0⟩ : ∃ g, g = w.heap.size := ⟨_, rfl⟩
    rw [← hg0] at B0 ⊢
    have HGW := Lib.hid hg0
    have hz0 : g0 < w1.heap.size := (Array.getElem?_eq_some_iff.1 B0.out).1
    obtain ⟨v0, v1, zv0, zv1⟩ := two_cells B0.out
    clear hk0 k1 hg0 B0 p0 p1
    go_wp2_with fail
    have f0 : (((w1.setCell ⟨g0, 0, none⟩ (.int .i64 0)).setCell ⟨g0, 1, none⟩ (.int .i64 0)).alloc (.cells #[.int .i64 bw, .int .i64 l] 35)).cell? ⟨g0, 0, none⟩ = some (.int .i64 0) := by go_simp
    have f1 : (((w1.setCell ⟨g0, 0, none⟩ (.int .i64 0)).setCell ⟨g0, 1, none⟩ (.int .i64 0)).alloc (.cells #[.int .i64 bw, .int .i64 l] 35)).cell? ⟨g0, 1, none⟩ = some (.int .i64 0) := by go_simp
    have hk3 : Kp No w (((w1.setCell ⟨g0, 0, none⟩ (.int .i64 0)).setCell ⟨g0, 1, none⟩ (.int .i64 0)).alloc (.cells #[.int .i64 bw, .int .i64 l] 35)) := (kp_set2 HK1.out (by rw [HGW.out]; exact Nat.le_refl _)).tr (Kp.alloc _ _ _)
    generalize (((w1.setCell ⟨g0, 0, none⟩ (.int .i64 0)).setCell ⟨g0, 1, none⟩ (.int .i64 0)).alloc (.cells #[.int .i64 bw, .int .i64 l] 35)) = w3 at f0 f1 hk3 ⊢
    exact bodyPost_ret (v := .tuple #[.agg #[.int .i64 0, .int .i64 0], .int .i64 7]) (by simp [results, Try.results15, go_sem, f0, f1]) rfl ⟨rfl, hk3⟩
  · rw [show footV top toe l s = (⟨piU top + s, footH top toe l⟩, 0) by unfold footV; rw [ht, hb, if_neg h3]; rfl]
    exact foot_ok top toe l s w ht hb h3
end Go.Proofs.Ytamjhpdgclbfgaa
