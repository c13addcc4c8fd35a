/- Chapter 27: which works are valid: the reference's walk. -/
import Derived.Test.YtjbpdimepckmfaaXLibSortM
namespace Go.Proofs.Ytjbpdimepckmfaa
open Go.RowKit Go.Kq

set_option maxHeartbeats 4000000 in
set_option maxRecDepth 100000 in
theorem rvalid_12 (v : Wk) (w : World) (hN : okN v.wk v.num = true) (hC1 : 1 ≤ v.ck) (hC2 : v.ck ≤ 1000000000) (hkd : v.kd = 1 ∨ v.kd = 2) : Calls Try.prog 42 #[v.val] w fun e w' => e = .returned (.bool (okW v)) ∧ Kp No w w' := by
  have HW := Lib.hid (show okW v = okK v by unfold okW; rw [hN, decide_eq_true hC1, decide_eq_true hC2]; rfl)
  go_enter Try.func42, Try.ntmps42
  simp only [Wk.val]
  go_wp2_with fail
  obtain ⟨w1, hw1⟩ : ∃ w1, w1 = w.alloc (.cells #[.int .i64 v.wk, .int .i64 v.num, .int .i64 v.ck, .int .i64 v.kd, .int .i64 v.rk, .int .i64 v.nt, .int .i64 v.fd, .int .i64 v.vl, .int .i64 v.ow, .int .i64 v.on, .string v.tx] 41) := ⟨_, rfl⟩
  rw [← hw1]
  have hb : w1.heap[w.heap.size]? = some (.cells #[.int .i64 v.wk, .int .i64 v.num, .int .i64 v.ck, .int .i64 v.kd, .int .i64 v.rk, .int .i64 v.nt, .int .i64 v.fd, .int .i64 v.vl, .int .i64 v.ow, .int .i64 v.on, .string v.tx] 41 (0, 0)) := by rw [hw1]; exact heap_alloc_new _ _
  have HB := Lib.hid hb
  have hk1 : Kp No w w1 := by rw [hw1]; exact Kp.alloc _ _ _
  clear hw1 hb
  refine (rnamed_any v.wk v.num w1).mono ?_
  rw [hN]
  rintro e w2 ⟨rfl, hk12⟩
  have hk2 := hk1.tr hk12
  have HB2 := Lib.hid (hk12.heap HB.out id)
  clear hk1 hk12 HB
  have c0 : w2.cell? ⟨w.heap.size, 0, none⟩ = some (.int .i64 v.wk) := by rw [cell_of_row _ _ _ _ _ _ HB2.out]; rfl
  have c1 : w2.cell? ⟨w.heap.size, 1, none⟩ = some (.int .i64 v.num) := by rw [cell_of_row _ _ _ _ _ _ HB2.out]; rfl
  have c2 : w2.cell? ⟨w.heap.size, 2, none⟩ = some (.int .i64 v.ck) := by rw [cell_of_row _ _ _ _ _ _ HB2.out]; rfl
  have c3 : w2.cell? ⟨w.heap.size, 3, none⟩ = some (.int .i64 v.kd) := by rw [cell_of_row _ _ _ _ _ _ HB2.out]; rfl
  have c4 : w2.cell? ⟨w.heap.size, 4, none⟩ = some (.int .i64 v.rk) := by rw [cell_of_row _ _ _ _ _ _ HB2.out]; rfl
  have c5 : w2.cell? ⟨w.heap.size, 5, none⟩ = some (.int .i64 v.nt) := by rw [cell_of_row _ _ _ _ _ _ HB2.out]; rfl
  have c6 : w2.cell? ⟨w.heap.size, 6, none⟩ = some (.int .i64 v.fd) := by rw [cell_of_row _ _ _ _ _ _ HB2.out]; rfl
  have c7 : w2.cell? ⟨w.heap.size, 7, none⟩ = some (.int .i64 v.vl) := by rw [cell_of_row _ _ _ _ _ _ HB2.out]; rfl
  have c8 : w2.cell? ⟨w.heap.size, 8, none⟩ = some (.int .i64 v.ow) := by rw [cell_of_row _ _ _ _ _ _ HB2.out]; rfl
  have c9 : w2.cell? ⟨w.heap.size, 9, none⟩ = some (.int .i64 v.on) := by rw [cell_of_row _ _ _ _ _ _ HB2.out]; rfl
  have c10 : w2.cell? ⟨w.heap.size, 10, none⟩ = some (.string v.tx) := by rw [cell_of_row _ _ _ _ _ _ HB2.out]; rfl
  have HKD := Lib.hid hkd
  have hcase : (v.kd == 1) = true ∨ ((v.kd == 1) = false ∧ (v.kd == 2) = true) := by
    rcases hkd with h | h
    · exact .inl (by rw [beq_iff_eq]; exact h)
    · exact .inr ⟨by rw [beq_eq_false_iff_ne]; omega, by rw [beq_iff_eq]; exact h⟩
  clear hkd
  have HK := Lib.hid (show okK v = (okP v.rk v.nt && decide (0 ≤ v.fd) && decide (v.fd < 8) && decide (-1000000000 ≤ v.vl) && decide (v.vl ≤ 1000000000) && v.ow == 0 && v.on == 0 && noT v.tx) by unfold okK; rw [if_pos HKD.out])
  cases hOW : (v.ow == 0)
  all_goals cases hON : (v.on == 0)
  all_goals cases hP : okP v.rk v.nt
  all_goals
    rcases hcase with e1 | ⟨e1, e2⟩
    all_goals
      go_wp2_with fail
      refine (rpipe_any v.rk v.nt w2).mono ?_
      rw [hP]
      rintro e w3 ⟨rfl, hk23⟩
      have hk3 := hk2.tr hk23
      clear c0 c1 c2 c3 c4 c5 c6 c7 c8 c9 c10
      have c0 : w3.cell? ⟨w.heap.size, 0, none⟩ = some (.int .i64 v.wk) := by rw [cell_of_row _ _ _ _ _ _ (hk23.heap HB2.out id)]; rfl
      have c1 : w3.cell? ⟨w.heap.size, 1, none⟩ = some (.int .i64 v.num) := by rw [cell_of_row _ _ _ _ _ _ (hk23.heap HB2.out id)]; rfl
      have c2 : w3.cell? ⟨w.heap.size, 2, none⟩ = some (.int .i64 v.ck) := by rw [cell_of_row _ _ _ _ _ _ (hk23.heap HB2.out id)]; rfl
      have c3 : w3.cell? ⟨w.heap.size, 3, none⟩ = some (.int .i64 v.kd) := by rw [cell_of_row _ _ _ _ _ _ (hk23.heap HB2.out id)]; rfl
      have c4 : w3.cell? ⟨w.heap.size, 4, none⟩ = some (.int .i64 v.rk) := by rw [cell_of_row _ _ _ _ _ _ (hk23.heap HB2.out id)]; rfl
      have c5 : w3.cell? ⟨w.heap.size, 5, none⟩ = some (.int .i64 v.nt) := by rw [cell_of_row _ _ _ _ _ _ (hk23.heap HB2.out id)]; rfl
      have c6 : w3.cell? ⟨w.heap.size, 6, none⟩ = some (.int .i64 v.fd) := by rw [cell_of_row _ _ _ _ _ _ (hk23.heap HB2.out id)]; rfl
      have c7 : w3.cell? ⟨w.heap.size, 7, none⟩ = some (.int .i64 v.vl) := by rw [cell_of_row _ _ _ _ _ _ (hk23.heap HB2.out id)]; rfl
      have c8 : w3.cell? ⟨w.heap.size, 8, none⟩ = some (.int .i64 v.ow) := by rw [cell_of_row _ _ _ _ _ _ (hk23.heap HB2.out id)]; rfl
      have c9 : w3.cell? ⟨w.heap.size, 9, none⟩ = some (.int .i64 v.on) := by rw [cell_of_row _ _ _ _ _ _ (hk23.heap HB2.out id)]; rfl
      have c10 : w3.cell? ⟨w.heap.size, 10, none⟩ = some (.string v.tx) := by rw [cell_of_row _ _ _ _ _ _ (hk23.heap HB2.out id)]; rfl
      go_wp2_with fail
      all_goals
        go_ret
        refine ⟨ret_bool ?_, hk3⟩
        clear hk3 hk2 hk23 HB2 c0 c1 c2 c3 c4 c5 c6 c7 c8 c9 c10
        rw [HW.out, HK.out]
        unfold noT
        first | (simp [*]; done) | (simp [*]; intros; omega)
set_option maxHeartbeats 4000000 in
set_option maxRecDepth 100000 in
theorem rvalid_3 (v : Wk) (w : World) (hs : v.tx.size ≤ maxLen) (hN : okN v.wk v.num = true) (hC1 : 1 ≤ v.ck) (hC2 : v.ck ≤ 1000000000) (hkd : v.kd = 3) : Calls Try.prog 42 #[v.val] w fun e w' => e = .returned (.bool (okW v)) ∧ Kp No w w' := by
  have HW := Lib.hid (show okW v = okK v by unfold okW; rw [hN, decide_eq_true hC1, decide_eq_true hC2]; rfl)
  have HKD := Lib.hid hkd
  clear hkd
  go_enter Try.func42, Try.ntmps42
  simp only [Wk.val]
  go_wp2_with fail
  obtain ⟨w1, hw1⟩ : ∃ w1, w1 = w.alloc (.cells #[.int .i64 v.wk, .int .i64 v.num, .int .i64 v.ck, .int .i64 v.kd, .int .i64 v.rk, .int .i64 v.nt, .int .i64 v.fd, .int .i64 v.vl, .int .i64 v.ow, .int .i64 v.on, .string v.tx] 41) := ⟨_, rfl⟩
  rw [← hw1]
  have hb : w1.heap[w.heap.size]? = some (.cells #[.int .i64 v.wk, .int .i64 v.num, .int .i64 v.ck, .int .i64 v.kd, .int .i64 v.rk, .int .i64 v.nt, .int .i64 v.fd, .int .i64 v.vl, .int .i64 v.ow, .int .i64 v.on, .string v.tx] 41 (0, 0)) := by rw [hw1]; exact heap_alloc_new _ _
  have HB := Lib.hid hb
  have hk1 : Kp No w w1 := by rw [hw1]; exact Kp.alloc _ _ _
  clear hw1 hb
  refine (rnamed_any v.wk v.num w1).mono ?_
  rw [hN]
  rintro e w2 ⟨rfl, hk12⟩
  have hk2 := hk1.tr hk12
  have HB2 := Lib.hid (hk12.heap HB.out id)
  clear hk1 hk12 HB
  have c0 : w2.cell? ⟨w.heap.size, 0, none⟩ = some (.int .i64 v.wk) := by rw [cell_of_row _ _ _ _ _ _ HB2.out]; rfl
  have c1 : w2.cell? ⟨w.heap.size, 1, none⟩ = some (.int .i64 v.num) := by rw [cell_of_row _ _ _ _ _ _ HB2.out]; rfl
  have c2 : w2.cell? ⟨w.heap.size, 2, none⟩ = some (.int .i64 v.ck) := by rw [cell_of_row _ _ _ _ _ _ HB2.out]; rfl
  have c3 : w2.cell? ⟨w.heap.size, 3, none⟩ = some (.int .i64 v.kd) := by rw [cell_of_row _ _ _ _ _ _ HB2.out]; rfl
  have c4 : w2.cell? ⟨w.heap.size, 4, none⟩ = some (.int .i64 v.rk) := by rw [cell_of_row _ _ _ _ _ _ HB2.out]; rfl
  have c5 : w2.cell? ⟨w.heap.size, 5, none⟩ = some (.int .i64 v.nt) := by rw [cell_of_row _ _ _ _ _ _ HB2.out]; rfl
  have c6 : w2.cell? ⟨w.heap.size, 6, none⟩ = some (.int .i64 v.fd) := by rw [cell_of_row _ _ _ _ _ _ HB2.out]; rfl
  have c7 : w2.cell? ⟨w.heap.size, 7, none⟩ = some (.int .i64 v.vl) := by rw [cell_of_row _ _ _ _ _ _ HB2.out]; rfl
  have c8 : w2.cell? ⟨w.heap.size, 8, none⟩ = some (.int .i64 v.ow) := by rw [cell_of_row _ _ _ _ _ _ HB2.out]; rfl
  have c9 : w2.cell? ⟨w.heap.size, 9, none⟩ = some (.int .i64 v.on) := by rw [cell_of_row _ _ _ _ _ _ HB2.out]; rfl
  have c10 : w2.cell? ⟨w.heap.size, 10, none⟩ = some (.string v.tx) := by rw [cell_of_row _ _ _ _ _ _ HB2.out]; rfl
  have hkd := HKD.out
  have HK := Lib.hid (show okK v = (okP v.rk v.nt && v.fd == 0 && v.vl == 0 && v.ow == 0 && v.on == 0 && okT v.tx) by unfold okK; rw [if_neg (by omega), if_pos hkd])
  have e1 : (v.kd == 1) = false := by rw [beq_eq_false_iff_ne]; omega
  have e2 : (v.kd == 2) = false := by rw [beq_eq_false_iff_ne]; omega
  have e3 : (v.kd == 3) = true := by rw [beq_iff_eq]; exact hkd
  clear hkd
  cases hOW : (v.ow == 0)
  all_goals cases hON : (v.on == 0)
  all_goals cases hP : okP v.rk v.nt
  all_goals
    go_wp2_with fail
    refine (rpipe_any v.rk v.nt w2).mono ?_
    rw [hP]
    rintro e w3 ⟨rfl, hk23⟩
    have hk3 := hk2.tr hk23
    clear c0 c1 c2 c3 c4 c5 c6 c7 c8 c9 c10
    have c0 : w3.cell? ⟨w.heap.size, 0, none⟩ = some (.int .i64 v.wk) := by rw [cell_of_row _ _ _ _ _ _ (hk23.heap HB2.out id)]; rfl
    have c1 : w3.cell? ⟨w.heap.size, 1, none⟩ = some (.int .i64 v.num) := by rw [cell_of_row _ _ _ _ _ _ (hk23.heap HB2.out id)]; rfl
    have c2 : w3.cell? ⟨w.heap.size, 2, none⟩ = some (.int .i64 v.ck) := by rw [cell_of_row _ _ _ _ _ _ (hk23.heap HB2.out id)]; rfl
    have c3 : w3.cell? ⟨w.heap.size, 3, none⟩ = some (.int .i64 v.kd) := by rw [cell_of_row _ _ _ _ _ _ (hk23.heap HB2.out id)]; rfl
    have c4 : w3.cell? ⟨w.heap.size, 4, none⟩ = some (.int .i64 v.rk) := by rw [cell_of_row _ _ _ _ _ _ (hk23.heap HB2.out id)]; rfl
    have c5 : w3.cell? ⟨w.heap.size, 5, none⟩ = some (.int .i64 v.nt) := by rw [cell_of_row _ _ _ _ _ _ (hk23.heap HB2.out id)]; rfl
    have c6 : w3.cell? ⟨w.heap.size, 6, none⟩ = some (.int .i64 v.fd) := by rw [cell_of_row _ _ _ _ _ _ (hk23.heap HB2.out id)]; rfl
    have c7 : w3.cell? ⟨w.heap.size, 7, none⟩ = some (.int .i64 v.vl) := by rw [cell_of_row _ _ _ _ _ _ (hk23.heap HB2.out id)]; rfl
    have c8 : w3.cell? ⟨w.heap.size, 8, none⟩ = some (.int .i64 v.ow) := by rw [cell_of_row _ _ _ _ _ _ (hk23.heap HB2.out id)]; rfl
    have c9 : w3.cell? ⟨w.heap.size, 9, none⟩ = some (.int .i64 v.on) := by rw [cell_of_row _ _ _ _ _ _ (hk23.heap HB2.out id)]; rfl
    have c10 : w3.cell? ⟨w.heap.size, 10, none⟩ = some (.string v.tx) := by rw [cell_of_row _ _ _ _ _ _ (hk23.heap HB2.out id)]; rfl
    have ht := rtext_any v.tx w3 hs
    go_wp2_with (go_at_call 74; refine ht.mono ?_; rintro e w' ⟨rfl, rfl⟩)
    all_goals
      go_ret
      refine ⟨ret_bool ?_, hk3⟩
      clear hk3 hk2 hk23 HB2 ht c0 c1 c2 c3 c4 c5 c6 c7 c8 c9 c10
      rw [HW.out, HK.out]
      first | (simp [*]; done) | (simp [*]; intros; omega)
set_option maxHeartbeats 4000000 in
set_option maxRecDepth 100000 in
theorem rvalid_4 (v : Wk) (w : World) (hN : okN v.wk v.num = true) (hC1 : 1 ≤ v.ck) (hC2 : v.ck ≤ 1000000000) (hkd : v.kd = 4) : Calls Try.prog 42 #[v.val] w fun e w' => e = .returned (.bool (okW v)) ∧ Kp No w w' := by
  have HW := Lib.hid (show okW v = okK v by unfold okW; rw [hN, decide_eq_true hC1, decide_eq_true hC2]; rfl)
  have HKD := Lib.hid hkd
  clear hkd
  go_enter Try.func42, Try.ntmps42
  simp only [Wk.val]
  go_wp2_with fail
  obtain ⟨w1, hw1⟩ : ∃ w1, w1 = w.alloc (.cells #[.int .i64 v.wk, .int .i64 v.num, .int .i64 v.ck, .int .i64 v.kd, .int .i64 v.rk, .int .i64 v.nt, .int .i64 v.fd, .int .i64 v.vl, .int .i64 v.ow, .int .i64 v.on, .string v.tx] 41) := ⟨_, rfl⟩
  rw [← hw1]
  have hb : w1.heap[w.heap.size]? = some (.cells #[.int .i64 v.wk, .int .i64 v.num, .int .i64 v.ck, .int .i64 v.kd, .int .i64 v.rk, .int .i64 v.nt, .int .i64 v.fd, .int .i64 v.vl, .int .i64 v.ow, .int .i64 v.on, .string v.tx] 41 (0, 0)) := by rw [hw1]; exact heap_alloc_new _ _
  have HB := Lib.hid hb
  have hk1 : Kp No w w1 := by rw [hw1]; exact Kp.alloc _ _ _
  clear hw1 hb
  refine (rnamed_any v.wk v.num w1).mono ?_
  rw [hN]
  rintro e w2 ⟨rfl, hk12⟩
  have hk2 := hk1.tr hk12
  have HB2 := Lib.hid (hk12.heap HB.out id)
  clear hk1 hk12 HB
  have c0 : w2.cell? ⟨w.heap.size, 0, none⟩ = some (.int .i64 v.wk) := by rw [cell_of_row _ _ _ _ _ _ HB2.out]; rfl
  have c1 : w2.cell? ⟨w.heap.size, 1, none⟩ = some (.int .i64 v.num) := by rw [cell_of_row _ _ _ _ _ _ HB2.out]; rfl
  have c2 : w2.cell? ⟨w.heap.size, 2, none⟩ = some (.int .i64 v.ck) := by rw [cell_of_row _ _ _ _ _ _ HB2.out]; rfl
  have c3 : w2.cell? ⟨w.heap.size, 3, none⟩ = some (.int .i64 v.kd) := by rw [cell_of_row _ _ _ _ _ _ HB2.out]; rfl
  have c4 : w2.cell? ⟨w.heap.size, 4, none⟩ = some (.int .i64 v.rk) := by rw [cell_of_row _ _ _ _ _ _ HB2.out]; rfl
  have c5 : w2.cell? ⟨w.heap.size, 5, none⟩ = some (.int .i64 v.nt) := by rw [cell_of_row _ _ _ _ _ _ HB2.out]; rfl
  have c6 : w2.cell? ⟨w.heap.size, 6, none⟩ = some (.int .i64 v.fd) := by rw [cell_of_row _ _ _ _ _ _ HB2.out]; rfl
  have c7 : w2.cell? ⟨w.heap.size, 7, none⟩ = some (.int .i64 v.vl) := by rw [cell_of_row _ _ _ _ _ _ HB2.out]; rfl
  have c8 : w2.cell? ⟨w.heap.size, 8, none⟩ = some (.int .i64 v.ow) := by rw [cell_of_row _ _ _ _ _ _ HB2.out]; rfl
  have c9 : w2.cell? ⟨w.heap.size, 9, none⟩ = some (.int .i64 v.on) := by rw [cell_of_row _ _ _ _ _ _ HB2.out]; rfl
  have c10 : w2.cell? ⟨w.heap.size, 10, none⟩ = some (.string v.tx) := by rw [cell_of_row _ _ _ _ _ _ HB2.out]; rfl
  have hkd := HKD.out
  have HK := Lib.hid (show okK v = (v.rk == 0 && v.nt == 0 && v.fd == 0 && v.vl == 0 && okN v.ow v.on && noT v.tx) by unfold okK; rw [if_neg (by omega), if_neg (by omega), if_pos hkd])
  have e1 : (v.kd == 1) = false := by rw [beq_eq_false_iff_ne]; omega
  have e2 : (v.kd == 2) = false := by rw [beq_eq_false_iff_ne]; omega
  have e3 : (v.kd == 3) = false := by rw [beq_eq_false_iff_ne]; omega
  have e4 : (v.kd == 4) = true := by rw [beq_iff_eq]; exact hkd
  clear hkd
  have hpe := fun w' => pipe_equal w' v.rk v.nt 0 0
  have hn := rnamed_any v.ow v.on w2
  cases hOW : (v.ow == 0)
  all_goals cases hON : (v.on == 0)
  all_goals cases hP : okN v.ow v.on
  all_goals
    rw [hP] at hn
    go_wp2_with (go_at_call 73; refine hn.mono ?_; rintro e w3 ⟨rfl, hk23⟩; have hk3 := hk2.tr hk23; have c10 : w3.cell? ⟨w.heap.size, 10, none⟩ = some (.string v.tx) := by rw [cell_of_row _ _ _ _ _ _ (hk23.heap HB2.out id)]; rfl)
    all_goals
      go_ret
      refine ⟨ret_bool ?_, by first | exact hk3 | exact hk2⟩
      clear hk2 HB2 hn hpe
      rw [HW.out, HK.out]
      unfold noT
      first | (simp [*]; done) | (simp [*]; intros; omega)
set_option maxHeartbeats 4000000 in
set_option maxRecDepth 100000 in
theorem rvalid_0 (v : Wk) (w : World) (hN : okN v.wk v.num = true) (hC1 : 1 ≤ v.ck) (hC2 : v.ck ≤ 1000000000) (h1 : v.kd ≠ 1) (h2 : v.kd ≠ 2) (h3 : v.kd ≠ 3) (h4 : v.kd ≠ 4) : Calls Try.prog 42 #[v.val] w fun e w' => e = .returned (.bool (okW v)) ∧ Kp No w w' := by
  have HW := Lib.hid (show okW v = okK v by unfold okW; rw [hN, decide_eq_true hC1, decide_eq_true hC2]; rfl)
  go_enter Try.func42, Try.ntmps42
  simp only [Wk.val]
  go_wp2_with fail
  obtain ⟨w1, hw1⟩ : ∃ w1, w1 = w.alloc (.cells #[.int .i64 v.wk, .int .i64 v.num, .int .i64 v.ck, .int .i64 v.kd, .int .i64 v.rk, .int .i64 v.nt, .int .i64 v.fd, .int .i64 v.vl, .int .i64 v.ow, .int .i64 v.on, .string v.tx] 41) := ⟨_, rfl⟩
  rw [← hw1]
  have hb : w1.heap[w.heap.size]? = some (.cells #[.int .i64 v.wk, .int .i64 v.num, .int .i64 v.ck, .int .i64 v.kd, .int .i64 v.rk, .int .i64 v.nt, .int .i64 v.fd, .int .i64 v.vl, .int .i64 v.ow, .int .i64 v.on, .string v.tx] 41 (0, 0)) := by rw [hw1]; exact heap_alloc_new _ _
  have HB := Lib.hid hb
  have hk1 : Kp No w w1 := by rw [hw1]; exact Kp.alloc _ _ _
  clear hw1 hb
  refine (rnamed_any v.wk v.num w1).mono ?_
  rw [hN]
  rintro e w2 ⟨rfl, hk12⟩
  have hk2 := hk1.tr hk12
  have HB2 := Lib.hid (hk12.heap HB.out id)
  clear hk1 hk12 HB
  have c0 : w2.cell? ⟨w.heap.size, 0, none⟩ = some (.int .i64 v.wk) := by rw [cell_of_row _ _ _ _ _ _ HB2.out]; rfl
  have c1 : w2.cell? ⟨w.heap.size, 1, none⟩ = some (.int .i64 v.num) := by rw [cell_of_row _ _ _ _ _ _ HB2.out]; rfl
  have c2 : w2.cell? ⟨w.heap.size, 2, none⟩ = some (.int .i64 v.ck) := by rw [cell_of_row _ _ _ _ _ _ HB2.out]; rfl
  have c3 : w2.cell? ⟨w.heap.size, 3, none⟩ = some (.int .i64 v.kd) := by rw [cell_of_row _ _ _ _ _ _ HB2.out]; rfl
  have c4 : w2.cell? ⟨w.heap.size, 4, none⟩ = some (.int .i64 v.rk) := by rw [cell_of_row _ _ _ _ _ _ HB2.out]; rfl
  have c5 : w2.cell? ⟨w.heap.size, 5, none⟩ = some (.int .i64 v.nt) := by rw [cell_of_row _ _ _ _ _ _ HB2.out]; rfl
  have c6 : w2.cell? ⟨w.heap.size, 6, none⟩ = some (.int .i64 v.fd) := by rw [cell_of_row _ _ _ _ _ _ HB2.out]; rfl
  have c7 : w2.cell? ⟨w.heap.size, 7, none⟩ = some (.int .i64 v.vl) := by rw [cell_of_row _ _ _ _ _ _ HB2.out]; rfl
  have c8 : w2.cell? ⟨w.heap.size, 8, none⟩ = some (.int .i64 v.ow) := by rw [cell_of_row _ _ _ _ _ _ HB2.out]; rfl
  have c9 : w2.cell? ⟨w.heap.size, 9, none⟩ = some (.int .i64 v.on) := by rw [cell_of_row _ _ _ _ _ _ HB2.out]; rfl
  have c10 : w2.cell? ⟨w.heap.size, 10, none⟩ = some (.string v.tx) := by rw [cell_of_row _ _ _ _ _ _ HB2.out]; rfl
  have HK := Lib.hid (okK0 h1 h2 h3 h4)
  have e1 : (v.kd == 1) = false := by rw [beq_eq_false_iff_ne]; exact h1
  have e2 : (v.kd == 2) = false := by rw [beq_eq_false_iff_ne]; exact h2
  have e3 : (v.kd == 3) = false := by rw [beq_eq_false_iff_ne]; exact h3
  have e4 : (v.kd == 4) = false := by rw [beq_eq_false_iff_ne]; exact h4
  clear h1 h2 h3 h4
  go_wp2_with fail
  all_goals
    go_ret
    exact ⟨ret_bool (by rw [HW.out, HK.out]), hk2⟩
set_option maxHeartbeats 4000000 in
set_option maxRecDepth 100000 in
theorem rvalid_any (v : Wk) (w : World) (hs : v.tx.size ≤ maxLen) : Calls Try.prog 42 #[v.val] w fun e w' => e = .returned (.bool (okW v)) ∧ Kp No w w' := by
  cases hN : okN v.wk v.num
  · have HW := Lib.hid (show okW v = false by unfold okW; rw [hN]; rfl)
    go_enter Try.func42, Try.ntmps42
    simp only [Wk.val]
    go_wp2_with fail
    obtain ⟨w1, hw1⟩ : ∃ w1, w1 = w.alloc (.cells #[.int .i64 v.wk, .int .i64 v.num, .int .i64 v.ck, .int .i64 v.kd, .int .i64 v.rk, .int .i64 v.nt, .int .i64 v.fd, .int .i64 v.vl, .int .i64 v.ow, .int .i64 v.on, .string v.tx] 41) := ⟨_, rfl⟩
    rw [← hw1]
    have hb : w1.heap[w.heap.size]? = some (.cells #[.int .i64 v.wk, .int .i64 v.num, .int .i64 v.ck, .int .i64 v.kd, .int .i64 v.rk, .int .i64 v.nt, .int .i64 v.fd, .int .i64 v.vl, .int .i64 v.ow, .int .i64 v.on, .string v.tx] 41 (0, 0)) := by rw [hw1]; exact heap_alloc_new _ _
    have HB := Lib.hid hb
    have hk1 : Kp No w w1 := by rw [hw1]; exact Kp.alloc _ _ _
    clear hw1 hb
    refine (rnamed_any v.wk v.num w1).mono ?_
    rw [hN]
    rintro e w2 ⟨rfl, hk12⟩
    have hk2 := hk1.tr hk12
    have HB2 := Lib.hid (hk12.heap HB.out id)
    clear hk1 hk12 HB
    have c0 : w2.cell? ⟨w.heap.size, 0, none⟩ = some (.int .i64 v.wk) := by rw [cell_of_row _ _ _ _ _ _ HB2.out]; rfl
    have c1 : w2.cell? ⟨w.heap.size, 1, none⟩ = some (.int .i64 v.num) := by rw [cell_of_row _ _ _ _ _ _ HB2.out]; rfl
    have c2 : w2.cell? ⟨w.heap.size, 2, none⟩ = some (.int .i64 v.ck) := by rw [cell_of_row _ _ _ _ _ _ HB2.out]; rfl
    have c3 : w2.cell? ⟨w.heap.size, 3, none⟩ = some (.int .i64 v.kd) := by rw [cell_of_row _ _ _ _ _ _ HB2.out]; rfl
    have c4 : w2.cell? ⟨w.heap.size, 4, none⟩ = some (.int .i64 v.rk) := by rw [cell_of_row _ _ _ _ _ _ HB2.out]; rfl
    have c5 : w2.cell? ⟨w.heap.size, 5, none⟩ = some (.int .i64 v.nt) := by rw [cell_of_row _ _ _ _ _ _ HB2.out]; rfl
    have c6 : w2.cell? ⟨w.heap.size, 6, none⟩ = some (.int .i64 v.fd) := by rw [cell_of_row _ _ _ _ _ _ HB2.out]; rfl
    have c7 : w2.cell? ⟨w.heap.size, 7, none⟩ = some (.int .i64 v.vl) := by rw [cell_of_row _ _ _ _ _ _ HB2.out]; rfl
    have c8 : w2.cell? ⟨w.heap.size, 8, none⟩ = some (.int .i64 v.ow) := by rw [cell_of_row _ _ _ _ _ _ HB2.out]; rfl
    have c9 : w2.cell? ⟨w.heap.size, 9, none⟩ = some (.int .i64 v.on) := by rw [cell_of_row _ _ _ _ _ _ HB2.out]; rfl
    have c10 : w2.cell? ⟨w.heap.size, 10, none⟩ = some (.string v.tx) := by rw [cell_of_row _ _ _ _ _ _ HB2.out]; rfl
    go_wp2_with fail
    go_ret
    exact ⟨ret_bool (by rw [HW.out]), hk2⟩
  · by_cases hC : 1 ≤ v.ck ∧ v.ck ≤ 1000000000
    · by_cases h12 : v.kd = 1 ∨ v.kd = 2
      · exact rvalid_12 v w hN hC.1 hC.2 h12
      by_cases h3 : v.kd = 3
      · exact rvalid_3 v w hs hN hC.1 hC.2 h3
      by_cases h4 : v.kd = 4
      · exact rvalid_4 v w hN hC.1 hC.2 h4
      exact rvalid_0 v w hN hC.1 hC.2 (by omega) (by omega) h3 h4
    · have HW := Lib.hid (show okW v = false by unfold okW; rw [hN]; by_cases h1 : 1 ≤ v.ck <;> by_cases h2 : v.ck ≤ 1000000000 <;> simp [h1, h2] <;> omega)
      go_enter Try.func42, Try.ntmps42
      simp only [Wk.val]
      go_wp2_with fail
      obtain ⟨w1, hw1⟩ : ∃ w1, w1 = w.alloc (.cells #[.int .i64 v.wk, .int .i64 v.num, .int .i64 v.ck, .int .i64 v.kd, .int .i64 v.rk, .int .i64 v.nt, .int .i64 v.fd, .int .i64 v.vl, .int .i64 v.ow, .int .i64 v.on, .string v.tx] 41) := ⟨_, rfl⟩
      rw [← hw1]
      have hb : w1.heap[w.heap.size]? = some (.cells #[.int .i64 v.wk, .int .i64 v.num, .int .i64 v.ck, .int .i64 v.kd, .int .i64 v.rk, .int .i64 v.nt, .int .i64 v.fd, .int .i64 v.vl, .int .i64 v.ow, .int .i64 v.on, .string v.tx] 41 (0, 0)) := by rw [hw1]; exact heap_alloc_new _ _
      have HB := Lib.hid hb
      have hk1 : Kp No w w1 := by rw [hw1]; exact Kp.alloc _ _ _
      clear hw1 hb
      refine (rnamed_any v.wk v.num w1).mono ?_
      rw [hN]
      rintro e w2 ⟨rfl, hk12⟩
      have hk2 := hk1.tr hk12
      have HB2 := Lib.hid (hk12.heap HB.out id)
      clear hk1 hk12 HB
      have c0 : w2.cell? ⟨w.heap.size, 0, none⟩ = some (.int .i64 v.wk) := by rw [cell_of_row _ _ _ _ _ _ HB2.out]; rfl
      have c1 : w2.cell? ⟨w.heap.size, 1, none⟩ = some (.int .i64 v.num) := by rw [cell_of_row _ _ _ _ _ _ HB2.out]; rfl
      have c2 : w2.cell? ⟨w.heap.size, 2, none⟩ = some (.int .i64 v.ck) := by rw [cell_of_row _ _ _ _ _ _ HB2.out]; rfl
      have c3 : w2.cell? ⟨w.heap.size, 3, none⟩ = some (.int .i64 v.kd) := by rw [cell_of_row _ _ _ _ _ _ HB2.out]; rfl
      have c4 : w2.cell? ⟨w.heap.size, 4, none⟩ = some (.int .i64 v.rk) := by rw [cell_of_row _ _ _ _ _ _ HB2.out]; rfl
      have c5 : w2.cell? ⟨w.heap.size, 5, none⟩ = some (.int .i64 v.nt) := by rw [cell_of_row _ _ _ _ _ _ HB2.out]; rfl
      have c6 : w2.cell? ⟨w.heap.size, 6, none⟩ = some (.int .i64 v.fd) := by rw [cell_of_row _ _ _ _ _ _ HB2.out]; rfl
      have c7 : w2.cell? ⟨w.heap.size, 7, none⟩ = some (.int .i64 v.vl) := by rw [cell_of_row _ _ _ _ _ _ HB2.out]; rfl
      have c8 : w2.cell? ⟨w.heap.size, 8, none⟩ = some (.int .i64 v.ow) := by rw [cell_of_row _ _ _ _ _ _ HB2.out]; rfl
      have c9 : w2.cell? ⟨w.heap.size, 9, none⟩ = some (.int .i64 v.on) := by rw [cell_of_row _ _ _ _ _ _ HB2.out]; rfl
      have c10 : w2.cell? ⟨w.heap.size, 10, none⟩ = some (.string v.tx) := by rw [cell_of_row _ _ _ _ _ _ HB2.out]; rfl
      go_wp2_with fail
      all_goals first
        | omega
        | (go_ret
           exact ⟨ret_bool (by rw [HW.out]), hk2⟩)
end Go.Proofs.Ytjbpdimepckmfaa
