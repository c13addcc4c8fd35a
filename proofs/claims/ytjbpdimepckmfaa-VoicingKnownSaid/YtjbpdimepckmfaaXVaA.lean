/- Chapter 27: the walk of valid at a work that sets. Printed by gen_val.py. -/
import Derived.Test.YtjbpdimepckmfaaXLibSortM
namespace Go.Proofs.Ytjbpdimepckmfaa
open Go.RowKit Go.Kq
set_option maxHeartbeats 8000000 in
set_option maxRecDepth 100000 in
theorem valid_k1 (b o : Nat) (v : Wk) (w : World) (h : WkAt w b o v) (_hs : v.tx.size ≤ maxLen) (hN : okN v.wk v.num = true) (hC1 : 1 ≤ v.ck) (hC2 : v.ck ≤ 1000000000) (hkd : v.kd = 1) : Calls Try.prog 55 #[.pointer (some ⟨b, o, none⟩)] w fun e w' => e = .returned (.bool (okW v)) ∧ Kp No w w' := by
  have hb := h.lt
  have HW := Lib.hid (show okW v = okK v by unfold okW; rw [hN, decide_eq_true hC1, decide_eq_true hC2]; rfl)
  have HK := Lib.hid (okK12 (.inl hkd))
  have HKD := Lib.hid hkd
  clear hkd
  go_enter Try.func55, Try.ntmps55
  go_wp2_with fail
  refine (of_any b o v w h).mono ?_
  rintro e w1 ⟨rfl, hk1⟩
  go_wp2_with fail
  refine (there_any v.wk v.num w1).mono ?_
  rw [hN]
  rintro e w2 ⟨rfl, hk2⟩
  have hk02 := hk1.tr hk2
  have HA := Lib.hid (h.no hk02)
  have hsz := hk02.size
  have hb2 : b < w2.heap.size := by omega
  have hne : b ≠ w2.heap.size := by omega
  obtain ⟨c0, c1, c2, c3, _⟩ := h.no hk02
  clear h hk1 hk2
  go_wp2_with fail
  go_region
  obtain ⟨w3, hw3⟩ : ∃ w3, w3 = (w2.alloc (.cells #[.int .i64 v.wk, .int .i64 v.num, .int .i64 v.ck, .int .i64 v.kd, .int .i64 0, .int .i64 0, .int .i64 0, .int .i64 0, .int .i64 0, .int .i64 0, .string ⟨#[]⟩] 41)).drew := ⟨_, rfl⟩
  rw [← hw3]
  have hb3 : w3.heap[w2.heap.size]? = some (.cells #[.int .i64 v.wk, .int .i64 v.num, .int .i64 v.ck, .int .i64 v.kd, .int .i64 0, .int .i64 0, .int .i64 0, .int .i64 0, .int .i64 0, .int .i64 0, .string ⟨#[]⟩] 41 (0, 0)) := by rw [hw3]; exact heap_alloc_new _ _
  have hk23 : Kp No w2 w3 := by rw [hw3]; exact (Kp.alloc _ _ _).tr (Kp.drew _ _)
  have hk3 := hk02.tr hk23
  have HA3 := Lib.hid (HA.out.no hk23)
  have HB3 := Lib.hid hb3
  have hb3 := (Array.getElem?_eq_some_iff.1 hb3).1
  clear hw3 hk23 hk02 c0 c1 c2 c3 HA
  have hkd := HKD.out
  have e1 : (v.kd == 1) = true := by rw [beq_iff_eq]; exact hkd
  clear hkd
  obtain ⟨c0, c1, c2, c3, c4, c5, c6, c7, c8, c9, c10⟩ := HA3.out
  have k4 : w3.cell? ⟨w2.heap.size, 4, none⟩ = some (.int .i64 0) := by rw [cell_of_row _ _ _ _ _ _ HB3.out]; rfl
  have k5 : w3.cell? ⟨w2.heap.size, 5, none⟩ = some (.int .i64 0) := by rw [cell_of_row _ _ _ _ _ _ HB3.out]; rfl
  have k6 : w3.cell? ⟨w2.heap.size, 6, none⟩ = some (.int .i64 0) := by rw [cell_of_row _ _ _ _ _ _ HB3.out]; rfl
  have k7 : w3.cell? ⟨w2.heap.size, 7, none⟩ = some (.int .i64 0) := by rw [cell_of_row _ _ _ _ _ _ HB3.out]; rfl
  have f4 : w3.frozen? ⟨w2.heap.size, 4, none⟩ = false := by simp [World.frozen?, HB3.out]
  have f5 : w3.frozen? ⟨w2.heap.size, 5, none⟩ = false := by simp [World.frozen?, HB3.out]
  have f6 : w3.frozen? ⟨w2.heap.size, 6, none⟩ = false := by simp [World.frozen?, HB3.out]
  have f7 : w3.frozen? ⟨w2.heap.size, 7, none⟩ = false := by simp [World.frozen?, HB3.out]
  go_wp2_with fail
  go_region
  obtain ⟨w4, hw4⟩ : ∃ w4, w4 = ((((w3.setCell ⟨w2.heap.size, 4, none⟩ (.int .i64 v.rk)).setCell ⟨w2.heap.size, 5, none⟩ (.int .i64 v.nt)).setCell ⟨w2.heap.size, 6, none⟩ (.int .i64 v.fd)).setCell ⟨w2.heap.size, 7, none⟩ (.int .i64 v.vl)).drew := ⟨_, rfl⟩
  rw [← hw4]
  have hb4 : w4.heap[w2.heap.size]? = some (.cells #[.int .i64 v.wk, .int .i64 v.num, .int .i64 v.ck, .int .i64 v.kd, .int .i64 v.rk, .int .i64 v.nt, .int .i64 v.fd, .int .i64 v.vl, .int .i64 0, .int .i64 0, .string ⟨#[]⟩] 41 (0, 0)) := by
    rw [hw4]
    show ((((w3.setCell ⟨w2.heap.size, 4, none⟩ (.int .i64 v.rk)).setCell ⟨w2.heap.size, 5, none⟩ (.int .i64 v.nt)).setCell ⟨w2.heap.size, 6, none⟩ (.int .i64 v.fd)).setCell ⟨w2.heap.size, 7, none⟩ (.int .i64 v.vl)).heap[w2.heap.size]? = _
    have h3 := HB3.out
    simp [World.setCell, Array.getElem?_modify, h3]
  have hk34 : Kp (Kq.One w2.heap.size) w3 w4 := by
    rw [hw4]
    exact ((((kp_setOne _ _ _ _).tr (kp_setOne _ _ _ _)).tr (kp_setOne _ _ _ _)).tr (kp_setOne _ _ _ _)).tr (Kp.drew _ _)
  have HA4 := Lib.hid (HA3.out.kp hk34 hne)
  have HB4 := Lib.hid hb4
  have hk4 : Kp No w w4 := hk3.trans hk34 fun g hg e => by have e : g = w2.heap.size := e; omega
  have hsz4 := hk34.size
  clear hw4 hb4 c0 c1 c2 c3 c4 c5 c6 c7 c8 c9 c10 k4 f4 k5 f5 k6 f6 k7 f7 hk34 hk3 HA3 HB3
  have HE := Lib.hid (fun w' => work_equal w' ⟨v.wk, v.num, v.ck, v.kd, v.rk, v.nt, v.fd, v.vl, 0, 0, ⟨#[]⟩⟩ v)
  have hcase : okP v.rk v.nt = false ∨ (okP v.rk v.nt = true ∧ decide (0 ≤ v.fd) = false) ∨ (okP v.rk v.nt = true ∧ decide (0 ≤ v.fd) = true ∧ decide (v.fd < 8) = false) ∨ (okP v.rk v.nt = true ∧ decide (0 ≤ v.fd) = true ∧ decide (v.fd < 8) = true ∧ decide (-1000000000 ≤ v.vl) = false) ∨ (okP v.rk v.nt = true ∧ decide (0 ≤ v.fd) = true ∧ decide (v.fd < 8) = true ∧ decide (-1000000000 ≤ v.vl) = true ∧ decide (v.vl ≤ 1000000000) = false) ∨ (okP v.rk v.nt = true ∧ decide (0 ≤ v.fd) = true ∧ decide (v.fd < 8) = true ∧ decide (-1000000000 ≤ v.vl) = true ∧ decide (v.vl ≤ 1000000000) = true) := by
    cases okP v.rk v.nt
    · exact .inl rfl
    · simp only [decide_eq_true_eq, decide_eq_false_iff_not, true_and, Bool.true_eq_false, false_or]
      omega
  rcases hcase with hP | ⟨hP, r1⟩ | ⟨hP, r1, r2⟩ | ⟨hP, r1, r2, r3⟩ | ⟨hP, r1, r2, r3, r4⟩ | ⟨hP, r1, r2, r3, r4⟩
  · obtain ⟨_, _, _, _, c4, c5, _⟩ := HA4.out
    go_wp2_with fail
    refine (pipe_any v.rk v.nt w4).mono ?_
    rw [hP]
    rintro e w5 ⟨rfl, hk45⟩
    clear c4 c5
    have HA5 := Lib.hid (HA4.out.no hk45)
    have HB5 := Lib.hid (hk45.heap HB4.out id)
    have hk5 := hk4.tr hk45
    obtain ⟨c0, c1, c2, c3, c4, c5, c6, c7, c8, c9, c10⟩ := HA5.out
    have k0 : w5.cell? ⟨w2.heap.size, 0, none⟩ = some (.int .i64 v.wk) := by rw [cell_of_row _ _ _ _ _ _ HB5.out]; rfl
    have k1 : w5.cell? ⟨w2.heap.size, 1, none⟩ = some (.int .i64 v.num) := by rw [cell_of_row _ _ _ _ _ _ HB5.out]; rfl
    have k2 : w5.cell? ⟨w2.heap.size, 2, none⟩ = some (.int .i64 v.ck) := by rw [cell_of_row _ _ _ _ _ _ HB5.out]; rfl
    have k3 : w5.cell? ⟨w2.heap.size, 3, none⟩ = some (.int .i64 v.kd) := by rw [cell_of_row _ _ _ _ _ _ HB5.out]; rfl
    have k4 : w5.cell? ⟨w2.heap.size, 4, none⟩ = some (.int .i64 v.rk) := by rw [cell_of_row _ _ _ _ _ _ HB5.out]; rfl
    have k5 : w5.cell? ⟨w2.heap.size, 5, none⟩ = some (.int .i64 v.nt) := by rw [cell_of_row _ _ _ _ _ _ HB5.out]; rfl
    have k6 : w5.cell? ⟨w2.heap.size, 6, none⟩ = some (.int .i64 v.fd) := by rw [cell_of_row _ _ _ _ _ _ HB5.out]; rfl
    have k7 : w5.cell? ⟨w2.heap.size, 7, none⟩ = some (.int .i64 v.vl) := by rw [cell_of_row _ _ _ _ _ _ HB5.out]; rfl
    have k8 : w5.cell? ⟨w2.heap.size, 8, none⟩ = some (.int .i64 0) := by rw [cell_of_row _ _ _ _ _ _ HB5.out]; rfl
    have k9 : w5.cell? ⟨w2.heap.size, 9, none⟩ = some (.int .i64 0) := by rw [cell_of_row _ _ _ _ _ _ HB5.out]; rfl
    have k10 : w5.cell? ⟨w2.heap.size, 10, none⟩ = some (.string ⟨#[]⟩) := by rw [cell_of_row _ _ _ _ _ _ HB5.out]; rfl
    have hE := HE.out
    simp only [Wk.val] at hE
    clear c0 c1 c2 c3 c4 c5 c8 c9 c10 k0 k1 k2 k3 k4 k5 k6 k7 k8 k9 k10 hE
    go_wp2_with fail
    go_quiet (fail)
    go_wp2
    go_ret
    refine ⟨ret_bool ?_, hk5.tr (Kp.drewN _ _ _)⟩
    clear HA5 HB5 HA4 HB4 HE hk5 hk45 hk4 c6 c7
    rw [HW.out, HK.out]
    simp [*]
  · obtain ⟨_, _, _, _, c4, c5, _⟩ := HA4.out
    go_wp2_with fail
    refine (pipe_any v.rk v.nt w4).mono ?_
    rw [hP]
    rintro e w5 ⟨rfl, hk45⟩
    clear c4 c5
    have HA5 := Lib.hid (HA4.out.no hk45)
    have HB5 := Lib.hid (hk45.heap HB4.out id)
    have hk5 := hk4.tr hk45
    obtain ⟨c0, c1, c2, c3, c4, c5, c6, c7, c8, c9, c10⟩ := HA5.out
    have k0 : w5.cell? ⟨w2.heap.size, 0, none⟩ = some (.int .i64 v.wk) := by rw [cell_of_row _ _ _ _ _ _ HB5.out]; rfl
    have k1 : w5.cell? ⟨w2.heap.size, 1, none⟩ = some (.int .i64 v.num) := by rw [cell_of_row _ _ _ _ _ _ HB5.out]; rfl
    have k2 : w5.cell? ⟨w2.heap.size, 2, none⟩ = some (.int .i64 v.ck) := by rw [cell_of_row _ _ _ _ _ _ HB5.out]; rfl
    have k3 : w5.cell? ⟨w2.heap.size, 3, none⟩ = some (.int .i64 v.kd) := by rw [cell_of_row _ _ _ _ _ _ HB5.out]; rfl
    have k4 : w5.cell? ⟨w2.heap.size, 4, none⟩ = some (.int .i64 v.rk) := by rw [cell_of_row _ _ _ _ _ _ HB5.out]; rfl
    have k5 : w5.cell? ⟨w2.heap.size, 5, none⟩ = some (.int .i64 v.nt) := by rw [cell_of_row _ _ _ _ _ _ HB5.out]; rfl
    have k6 : w5.cell? ⟨w2.heap.size, 6, none⟩ = some (.int .i64 v.fd) := by rw [cell_of_row _ _ _ _ _ _ HB5.out]; rfl
    have k7 : w5.cell? ⟨w2.heap.size, 7, none⟩ = some (.int .i64 v.vl) := by rw [cell_of_row _ _ _ _ _ _ HB5.out]; rfl
    have k8 : w5.cell? ⟨w2.heap.size, 8, none⟩ = some (.int .i64 0) := by rw [cell_of_row _ _ _ _ _ _ HB5.out]; rfl
    have k9 : w5.cell? ⟨w2.heap.size, 9, none⟩ = some (.int .i64 0) := by rw [cell_of_row _ _ _ _ _ _ HB5.out]; rfl
    have k10 : w5.cell? ⟨w2.heap.size, 10, none⟩ = some (.string ⟨#[]⟩) := by rw [cell_of_row _ _ _ _ _ _ HB5.out]; rfl
    have hE := HE.out
    simp only [Wk.val] at hE
    clear c0 c1 c2 c3 c4 c5 c8 c9 c10 k0 k1 k2 k3 k4 k5 k6 k7 k8 k9 k10 hE
    go_wp2_with fail
    go_quiet (fail)
    go_wp2
    go_ret
    refine ⟨ret_bool ?_, hk5.tr (Kp.drewN _ _ _)⟩
    clear HA5 HB5 HA4 HB4 HE hk5 hk45 hk4 c6 c7
    rw [HW.out, HK.out]
    simp [*]
  · obtain ⟨_, _, _, _, c4, c5, _⟩ := HA4.out
    go_wp2_with fail
    refine (pipe_any v.rk v.nt w4).mono ?_
    rw [hP]
    rintro e w5 ⟨rfl, hk45⟩
    clear c4 c5
    have HA5 := Lib.hid (HA4.out.no hk45)
    have HB5 := Lib.hid (hk45.heap HB4.out id)
    have hk5 := hk4.tr hk45
    obtain ⟨c0, c1, c2, c3, c4, c5, c6, c7, c8, c9, c10⟩ := HA5.out
    have k0 : w5.cell? ⟨w2.heap.size, 0, none⟩ = some (.int .i64 v.wk) := by rw [cell_of_row _ _ _ _ _ _ HB5.out]; rfl
    have k1 : w5.cell? ⟨w2.heap.size, 1, none⟩ = some (.int .i64 v.num) := by rw [cell_of_row _ _ _ _ _ _ HB5.out]; rfl
    have k2 : w5.cell? ⟨w2.heap.size, 2, none⟩ = some (.int .i64 v.ck) := by rw [cell_of_row _ _ _ _ _ _ HB5.out]; rfl
    have k3 : w5.cell? ⟨w2.heap.size, 3, none⟩ = some (.int .i64 v.kd) := by rw [cell_of_row _ _ _ _ _ _ HB5.out]; rfl
    have k4 : w5.cell? ⟨w2.heap.size, 4, none⟩ = some (.int .i64 v.rk) := by rw [cell_of_row _ _ _ _ _ _ HB5.out]; rfl
    have k5 : w5.cell? ⟨w2.heap.size, 5, none⟩ = some (.int .i64 v.nt) := by rw [cell_of_row _ _ _ _ _ _ HB5.out]; rfl
    have k6 : w5.cell? ⟨w2.heap.size, 6, none⟩ = some (.int .i64 v.fd) := by rw [cell_of_row _ _ _ _ _ _ HB5.out]; rfl
    have k7 : w5.cell? ⟨w2.heap.size, 7, none⟩ = some (.int .i64 v.vl) := by rw [cell_of_row _ _ _ _ _ _ HB5.out]; rfl
    have k8 : w5.cell? ⟨w2.heap.size, 8, none⟩ = some (.int .i64 0) := by rw [cell_of_row _ _ _ _ _ _ HB5.out]; rfl
    have k9 : w5.cell? ⟨w2.heap.size, 9, none⟩ = some (.int .i64 0) := by rw [cell_of_row _ _ _ _ _ _ HB5.out]; rfl
    have k10 : w5.cell? ⟨w2.heap.size, 10, none⟩ = some (.string ⟨#[]⟩) := by rw [cell_of_row _ _ _ _ _ _ HB5.out]; rfl
    have hE := HE.out
    simp only [Wk.val] at hE
    clear c0 c1 c2 c3 c4 c5 c8 c9 c10 k0 k1 k2 k3 k4 k5 k6 k7 k8 k9 k10 hE
    go_wp2_with fail
    go_quiet (fail)
    go_wp2
    go_ret
    refine ⟨ret_bool ?_, hk5.tr (Kp.drewN _ _ _)⟩
    clear HA5 HB5 HA4 HB4 HE hk5 hk45 hk4 c6 c7
    rw [HW.out, HK.out]
    simp [*]
  · obtain ⟨_, _, _, _, c4, c5, _⟩ := HA4.out
    go_wp2_with fail
    refine (pipe_any v.rk v.nt w4).mono ?_
    rw [hP]
    rintro e w5 ⟨rfl, hk45⟩
    clear c4 c5
    have HA5 := Lib.hid (HA4.out.no hk45)
    have HB5 := Lib.hid (hk45.heap HB4.out id)
    have hk5 := hk4.tr hk45
    obtain ⟨c0, c1, c2, c3, c4, c5, c6, c7, c8, c9, c10⟩ := HA5.out
    have k0 : w5.cell? ⟨w2.heap.size, 0, none⟩ = some (.int .i64 v.wk) := by rw [cell_of_row _ _ _ _ _ _ HB5.out]; rfl
    have k1 : w5.cell? ⟨w2.heap.size, 1, none⟩ = some (.int .i64 v.num) := by rw [cell_of_row _ _ _ _ _ _ HB5.out]; rfl
    have k2 : w5.cell? ⟨w2.heap.size, 2, none⟩ = some (.int .i64 v.ck) := by rw [cell_of_row _ _ _ _ _ _ HB5.out]; rfl
    have k3 : w5.cell? ⟨w2.heap.size, 3, none⟩ = some (.int .i64 v.kd) := by rw [cell_of_row _ _ _ _ _ _ HB5.out]; rfl
    have k4 : w5.cell? ⟨w2.heap.size, 4, none⟩ = some (.int .i64 v.rk) := by rw [cell_of_row _ _ _ _ _ _ HB5.out]; rfl
    have k5 : w5.cell? ⟨w2.heap.size, 5, none⟩ = some (.int .i64 v.nt) := by rw [cell_of_row _ _ _ _ _ _ HB5.out]; rfl
    have k6 : w5.cell? ⟨w2.heap.size, 6, none⟩ = some (.int .i64 v.fd) := by rw [cell_of_row _ _ _ _ _ _ HB5.out]; rfl
    have k7 : w5.cell? ⟨w2.heap.size, 7, none⟩ = some (.int .i64 v.vl) := by rw [cell_of_row _ _ _ _ _ _ HB5.out]; rfl
    have k8 : w5.cell? ⟨w2.heap.size, 8, none⟩ = some (.int .i64 0) := by rw [cell_of_row _ _ _ _ _ _ HB5.out]; rfl
    have k9 : w5.cell? ⟨w2.heap.size, 9, none⟩ = some (.int .i64 0) := by rw [cell_of_row _ _ _ _ _ _ HB5.out]; rfl
    have k10 : w5.cell? ⟨w2.heap.size, 10, none⟩ = some (.string ⟨#[]⟩) := by rw [cell_of_row _ _ _ _ _ _ HB5.out]; rfl
    have hE := HE.out
    simp only [Wk.val] at hE
    clear c0 c1 c2 c3 c4 c5 c8 c9 c10 k0 k1 k2 k3 k4 k5 k6 k7 k8 k9 k10 hE
    go_wp2_with fail
    go_quiet (fail)
    go_wp2
    go_ret
    refine ⟨ret_bool ?_, hk5.tr (Kp.drewN _ _ _)⟩
    clear HA5 HB5 HA4 HB4 HE hk5 hk45 hk4 c6 c7
    rw [HW.out, HK.out]
    simp [*]
  · obtain ⟨_, _, _, _, c4, c5, _⟩ := HA4.out
    go_wp2_with fail
    refine (pipe_any v.rk v.nt w4).mono ?_
    rw [hP]
    rintro e w5 ⟨rfl, hk45⟩
    clear c4 c5
    have HA5 := Lib.hid (HA4.out.no hk45)
    have HB5 := Lib.hid (hk45.heap HB4.out id)
    have hk5 := hk4.tr hk45
    obtain ⟨c0, c1, c2, c3, c4, c5, c6, c7, c8, c9, c10⟩ := HA5.out
    have k0 : w5.cell? ⟨w2.heap.size, 0, none⟩ = some (.int .i64 v.wk) := by rw [cell_of_row _ _ _ _ _ _ HB5.out]; rfl
    have k1 : w5.cell? ⟨w2.heap.size, 1, none⟩ = some (.int .i64 v.num) := by rw [cell_of_row _ _ _ _ _ _ HB5.out]; rfl
    have k2 : w5.cell? ⟨w2.heap.size, 2, none⟩ = some (.int .i64 v.ck) := by rw [cell_of_row _ _ _ _ _ _ HB5.out]; rfl
    have k3 : w5.cell? ⟨w2.heap.size, 3, none⟩ = some (.int .i64 v.kd) := by rw [cell_of_row _ _ _ _ _ _ HB5.out]; rfl
    have k4 : w5.cell? ⟨w2.heap.size, 4, none⟩ = some (.int .i64 v.rk) := by rw [cell_of_row _ _ _ _ _ _ HB5.out]; rfl
    have k5 : w5.cell? ⟨w2.heap.size, 5, none⟩ = some (.int .i64 v.nt) := by rw [cell_of_row _ _ _ _ _ _ HB5.out]; rfl
    have k6 : w5.cell? ⟨w2.heap.size, 6, none⟩ = some (.int .i64 v.fd) := by rw [cell_of_row _ _ _ _ _ _ HB5.out]; rfl
    have k7 : w5.cell? ⟨w2.heap.size, 7, none⟩ = some (.int .i64 v.vl) := by rw [cell_of_row _ _ _ _ _ _ HB5.out]; rfl
    have k8 : w5.cell? ⟨w2.heap.size, 8, none⟩ = some (.int .i64 0) := by rw [cell_of_row _ _ _ _ _ _ HB5.out]; rfl
    have k9 : w5.cell? ⟨w2.heap.size, 9, none⟩ = some (.int .i64 0) := by rw [cell_of_row _ _ _ _ _ _ HB5.out]; rfl
    have k10 : w5.cell? ⟨w2.heap.size, 10, none⟩ = some (.string ⟨#[]⟩) := by rw [cell_of_row _ _ _ _ _ _ HB5.out]; rfl
    have hE := HE.out
    simp only [Wk.val] at hE
    clear c0 c1 c2 c3 c4 c5 c8 c9 c10 k0 k1 k2 k3 k4 k5 k6 k7 k8 k9 k10 hE
    go_wp2_with fail
    go_quiet (fail)
    go_wp2
    go_ret
    refine ⟨ret_bool ?_, hk5.tr (Kp.drewN _ _ _)⟩
    clear HA5 HB5 HA4 HB4 HE hk5 hk45 hk4 c6 c7
    rw [HW.out, HK.out]
    simp [*]
  · obtain ⟨_, _, _, _, c4, c5, _⟩ := HA4.out
    go_wp2_with fail
    refine (pipe_any v.rk v.nt w4).mono ?_
    rw [hP]
    rintro e w5 ⟨rfl, hk45⟩
    clear c4 c5
    have HA5 := Lib.hid (HA4.out.no hk45)
    have HB5 := Lib.hid (hk45.heap HB4.out id)
    have hk5 := hk4.tr hk45
    obtain ⟨c0, c1, c2, c3, c4, c5, c6, c7, c8, c9, c10⟩ := HA5.out
    have k0 : w5.cell? ⟨w2.heap.size, 0, none⟩ = some (.int .i64 v.wk) := by rw [cell_of_row _ _ _ _ _ _ HB5.out]; rfl
    have k1 : w5.cell? ⟨w2.heap.size, 1, none⟩ = some (.int .i64 v.num) := by rw [cell_of_row _ _ _ _ _ _ HB5.out]; rfl
    have k2 : w5.cell? ⟨w2.heap.size, 2, none⟩ = some (.int .i64 v.ck) := by rw [cell_of_row _ _ _ _ _ _ HB5.out]; rfl
    have k3 : w5.cell? ⟨w2.heap.size, 3, none⟩ = some (.int .i64 v.kd) := by rw [cell_of_row _ _ _ _ _ _ HB5.out]; rfl
    have k4 : w5.cell? ⟨w2.heap.size, 4, none⟩ = some (.int .i64 v.rk) := by rw [cell_of_row _ _ _ _ _ _ HB5.out]; rfl
    have k5 : w5.cell? ⟨w2.heap.size, 5, none⟩ = some (.int .i64 v.nt) := by rw [cell_of_row _ _ _ _ _ _ HB5.out]; rfl
    have k6 : w5.cell? ⟨w2.heap.size, 6, none⟩ = some (.int .i64 v.fd) := by rw [cell_of_row _ _ _ _ _ _ HB5.out]; rfl
    have k7 : w5.cell? ⟨w2.heap.size, 7, none⟩ = some (.int .i64 v.vl) := by rw [cell_of_row _ _ _ _ _ _ HB5.out]; rfl
    have k8 : w5.cell? ⟨w2.heap.size, 8, none⟩ = some (.int .i64 0) := by rw [cell_of_row _ _ _ _ _ _ HB5.out]; rfl
    have k9 : w5.cell? ⟨w2.heap.size, 9, none⟩ = some (.int .i64 0) := by rw [cell_of_row _ _ _ _ _ _ HB5.out]; rfl
    have k10 : w5.cell? ⟨w2.heap.size, 10, none⟩ = some (.string ⟨#[]⟩) := by rw [cell_of_row _ _ _ _ _ _ HB5.out]; rfl
    have hE := HE.out
    simp only [Wk.val] at hE
    go_wp2_with fail
    go_quiet (fail)
    go_wp2
    go_ret
    refine ⟨ret_bool ?_, hk5.tr (Kp.drewN _ _ _)⟩
    clear HA5 HB5 HA4 HB4 HE hk5 hk45 hk4 c0 k0 c1 k1 c2 k2 c3 k3 c4 k4 c5 k5 c6 k6 c7 k7 c8 k8 c9 k9 c10 k10 hE
    rw [HW.out, HK.out]
    simp [*]
end Go.Proofs.Ytjbpdimepckmfaa
