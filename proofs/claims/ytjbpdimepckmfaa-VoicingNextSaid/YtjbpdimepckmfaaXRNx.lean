/- Chapter 27: the reference's Next: the walk. Printed by gen_nxt.py. -/
import Derived.Test.YtjbpdimepckmfaaXNxtP
import Derived.Test.YtjbpdimepckmfaaXRch
import Derived.Test.YtjbpdimepckmfaaXRfi
namespace Go.Proofs.Ytjbpdimepckmfaa
open Go.RowKit Go.Kq

set_option maxHeartbeats 3000000 in
set_option maxRecDepth 100000 in
theorem rNext_any (A : Option Addr) (n ca : Nat) (l : List Wk) (v : Wk) (w : World) (hx : RdW w A n l) (hf : Fits l) (hv : v.tx.size ≤ maxLen) (hca : n ≤ ca) :
    Calls Try.prog 21 #[.slice A n ca, v.val] w fun e w' => e = .returned (.tuple #[(nextV l v).1.val, .int .i64 (nextV l v).2]) ∧ Kp No w w' := by
  have CA := fun w' (k : Kp No w w') => rCheck_any A n ca l w' (hx.no k) hf hca
  have HCA := Lib.hid CA
  have HX := Lib.hid hx
  have HL := Lib.hid hx.1
  obtain ⟨RV, hRV⟩ : ∃ RV, (nextV l v).1.val = RV := ⟨_, rfl⟩
  obtain ⟨re, hre⟩ : ∃ re, (nextV l v).2 = re := ⟨_, rfl⟩
  rw [hRV, hre]
  have HRV := Lib.hid hRV
  have HRE := Lib.hid hre
  have hsz : v.tx.size ≤ maxLen := hv
  have hcel : (.cells #[.int .i64 v.wk, .int .i64 v.num, .int .i64 v.ck, .int .i64 v.kd, .int .i64 v.rk, .int .i64 v.nt, .int .i64 v.fd, .int .i64 v.vl, .int .i64 v.ow, .int .i64 v.on, .string v.tx] 41 : Obj) = .cells v.cells.toArray 41 := rfl
  have HCEL := Lib.hid hcel
  simp only [Wk.val]
  clear CA hx hf hv hca hRV hre hcel
  by_cases h1 : chkL l = 0
  rotate_left
  · have q1 : (chkL l != 0) = true := by rw [bne_iff_ne]; exact h1
    have HN := Lib.hid (show nextV l v = (default, chkL l) by unfold nextV; rw [if_pos h1])
    generalize chkL l = e0 at HCA q1 HN
    clear h1
    go_enter Try.func21, Try.ntmps21
    go_wp2_with fail
    rw [HCEL.out]
    obtain ⟨W0, hW0⟩ : ∃ W0, W0 = (w.alloc (.cells v.cells.toArray 41)).alloc (.cells (default : Wk).cells.toArray 41) := ⟨_, rfl⟩
    have hk0 : Kp No w W0 := by rw [hW0]; exact (Kp.alloc _ _ _).tr (Kp.alloc _ _ _)
    have hb30 : BoxW W0 w.heap.size v := by rw [hW0]; exact (Kp.alloc No _ _).heap (heap_alloc_new _ _) id
    have hb40 : BoxW W0 (w.heap.size + 1) default := by
      rw [hW0]
      have h := heap_alloc_new (w.alloc (.cells v.cells.toArray 41)) (.cells (default : Wk).cells.toArray 41)
      rw [World.size_alloc] at h
      exact h
    change Calls _ _ _ ((w.alloc (.cells v.cells.toArray 41)).alloc (.cells (default : Wk).cells.toArray 41)) _
    rw [← hW0]
    clear hW0
    with_reducible refine (HCA.out W0 hk0).mono ?_
    rintro e w1 ⟨rfl, hk01⟩
    have hk1 := hk0.tr hk01
    have HB3 := Lib.hid (hb30.kp hk01 id)
    have HB4 := Lib.hid (hb40.kp hk01 id)
    clear hb30 hb40 hk0 hk01
    obtain ⟨p0, p1, p2, p3, p4, p5, p6, p7, p8, p9, p10⟩ := HB4.out.at_
    have fz := HB4.out.free
    have f0 := fz 0
    have f1 := fz 1
    have f2 := fz 2
    have f3 := fz 3
    have f4 := fz 4
    have f5 := fz 5
    have f6 := fz 6
    have f7 := fz 7
    have f8 := fz 8
    have f9 := fz 9
    have f10 := fz 10
    simp only [Nat.zero_add] at p1 p2 p3 p4 p5 p6 p7 p8 p9 p10
    clear fz
    go_wp2_with fail
    obtain ⟨hb5, hkz⟩ := HB4.out.put (default : Wk)
    have HK6 := Lib.hid (show Kp No w (putW w1 (w.heap.size + 1) (default : Wk)) from hk1.trans hkz fun k hk e => by have e : k = w.heap.size + 1 := e; omega)
    obtain ⟨r0, r1, r2, r3, r4, r5, r6, r7, r8, r9, r10⟩ := hb5.at_
    simp only [Nat.zero_add] at r1 r2 r3 r4 r5 r6 r7 r8 r9 r10
    clear p0 p1 p2 p3 p4 p5 p6 p7 p8 p9 p10 f0 f1 f2 f3 f4 f5 f6 f7 f8 f9 f10
    change bodyPost _ _ _ _ _ (putW w1 (w.heap.size + 1) (default : Wk))
    generalize putW w1 (w.heap.size + 1) (default : Wk) = W5 at *
    refine bodyPost_ret (v := .tuple #[(default : Wk).val, .int .i64 e0]) (by simp [results, Try.results21, go_sem, r0, r1, r2, r3, r4, r5, r6, r7, r8, r9, r10]; try rfl) rfl ⟨by rw [← HRV.out, ← HRE.out, HN.out], HK6.out⟩
  by_cases h2 : n = 400
  · have HN := Lib.hid (show nextV l v = (default, 5) by unfold nextV; rw [if_neg (by rw [h1]; simp), if_pos (by rw [HL.out]; exact h2)])
    subst h2
    rw [h1] at HCA
    clear h1
    go_enter Try.func21, Try.ntmps21
    go_wp2_with fail
    rw [HCEL.out]
    obtain ⟨W0, hW0⟩ : ∃ W0, W0 = (w.alloc (.cells v.cells.toArray 41)).alloc (.cells (default : Wk).cells.toArray 41) := ⟨_, rfl⟩
    have hk0 : Kp No w W0 := by rw [hW0]; exact (Kp.alloc _ _ _).tr (Kp.alloc _ _ _)
    have hb30 : BoxW W0 w.heap.size v := by rw [hW0]; exact (Kp.alloc No _ _).heap (heap_alloc_new _ _) id
    have hb40 : BoxW W0 (w.heap.size + 1) default := by
      rw [hW0]
      have h := heap_alloc_new (w.alloc (.cells v.cells.toArray 41)) (.cells (default : Wk).cells.toArray 41)
      rw [World.size_alloc] at h
      exact h
    change Calls _ _ _ ((w.alloc (.cells v.cells.toArray 41)).alloc (.cells (default : Wk).cells.toArray 41)) _
    rw [← hW0]
    clear hW0
    with_reducible refine (HCA.out W0 hk0).mono ?_
    rintro e w1 ⟨rfl, hk01⟩
    have hk1 := hk0.tr hk01
    have HB3 := Lib.hid (hb30.kp hk01 id)
    have HB4 := Lib.hid (hb40.kp hk01 id)
    clear hb30 hb40 hk0 hk01
    obtain ⟨p0, p1, p2, p3, p4, p5, p6, p7, p8, p9, p10⟩ := HB4.out.at_
    have fz := HB4.out.free
    have f0 := fz 0
    have f1 := fz 1
    have f2 := fz 2
    have f3 := fz 3
    have f4 := fz 4
    have f5 := fz 5
    have f6 := fz 6
    have f7 := fz 7
    have f8 := fz 8
    have f9 := fz 9
    have f10 := fz 10
    simp only [Nat.zero_add] at p1 p2 p3 p4 p5 p6 p7 p8 p9 p10
    clear fz
    go_wp2_with fail
    obtain ⟨hb5, hkz⟩ := HB4.out.put (default : Wk)
    have HK6 := Lib.hid (show Kp No w (putW w1 (w.heap.size + 1) (default : Wk)) from hk1.trans hkz fun k hk e => by have e : k = w.heap.size + 1 := e; omega)
    obtain ⟨r0, r1, r2, r3, r4, r5, r6, r7, r8, r9, r10⟩ := hb5.at_
    simp only [Nat.zero_add] at r1 r2 r3 r4 r5 r6 r7 r8 r9 r10
    clear p0 p1 p2 p3 p4 p5 p6 p7 p8 p9 p10 f0 f1 f2 f3 f4 f5 f6 f7 f8 f9 f10
    change bodyPost _ _ _ _ _ (putW w1 (w.heap.size + 1) (default : Wk))
    generalize putW w1 (w.heap.size + 1) (default : Wk) = W5 at *
    refine bodyPost_ret (v := .tuple #[(default : Wk).val, .int .i64 5]) (by simp [results, Try.results21, go_sem, r0, r1, r2, r3, r4, r5, r6, r7, r8, r9, r10]; try rfl) rfl ⟨by rw [← HRV.out, ← HRE.out, HN.out], HK6.out⟩
  have R := rec_of h1
  have hn4 : n ≤ 400 := by rw [← HL.out]; exact R.len
  have HR := Lib.hid R
  rw [h1] at HCA
  have HN0 := Lib.hid (show nextV l v = if 1000000000 < ckAt l n then (default, 7) else if okW (nxtW l v n) then if v.kd = 4 ∧ findN l v.onm = none then (default, 4) else (nxtW l v n, 0) else (default, 2) by unfold nextV; rw [if_neg (by rw [h1]; simp), if_neg (by rw [HL.out]; exact h2), HL.out])
  have q400 : decide ((400 : Int) ≤ (n : Int)) = false := by rw [decide_eq_false_iff_not]; omega
  have hml : many l v.wk ≤ 400 := by have := many_le l v.wk; have := R.len; omega
  have HNX := Lib.hid (show nxtW l v n = { v with num := (many l v.wk : Int) + 1, ck := ckAt l n } by unfold nxtW; rw [List.take_of_length_le (by rw [HL.out]; omega)])
  clear R h1 h2
  go_enter Try.func21, Try.ntmps21
  go_wp2_with fail
  rw [HCEL.out]
  obtain ⟨W0, hW0⟩ : ∃ W0, W0 = (w.alloc (.cells v.cells.toArray 41)).alloc (.cells (default : Wk).cells.toArray 41) := ⟨_, rfl⟩
  have hk0 : Kp No w W0 := by rw [hW0]; exact (Kp.alloc _ _ _).tr (Kp.alloc _ _ _)
  have hb30 : BoxW W0 w.heap.size v := by rw [hW0]; exact (Kp.alloc No _ _).heap (heap_alloc_new _ _) id
  have hb40 : BoxW W0 (w.heap.size + 1) default := by
    rw [hW0]
    have h := heap_alloc_new (w.alloc (.cells v.cells.toArray 41)) (.cells (default : Wk).cells.toArray 41)
    rw [World.size_alloc] at h
    exact h
  change Calls _ _ _ ((w.alloc (.cells v.cells.toArray 41)).alloc (.cells (default : Wk).cells.toArray 41)) _
  rw [← hW0]
  clear hW0
  with_reducible refine (HCA.out W0 hk0).mono ?_
  rintro e w1 ⟨rfl, hk01⟩
  have hk1 := hk0.tr hk01
  have HB3 := Lib.hid (hb30.kp hk01 id)
  have HB4 := Lib.hid (hb40.kp hk01 id)
  clear hb30 hb40 hk0 hk01
  obtain ⟨b0, b1, b2, b3, b4, b5, b6, b7, b8, b9, b10⟩ := HB3.out.at_
  have g1 := HB3.out.free 1
  have g2 := HB3.out.free 2
  simp only [Nat.zero_add] at b1 b2 b3 b4 b5 b6 b7 b8 b9 b10
  generalize hmm : many l v.wk = m at hml HNX
  have HMM := Lib.hid hmm
  clear hmm
  go_wp2_with fail
  with_reducible refine (rmany_any A n ca l v.wk w1 (HX.out.no hk1) (by omega)).mono ?_
  rw [HMM.out]
  rintro e w' ⟨rfl, rfl⟩
  have hckb := ck_bd HR.out.ok n
  obtain ⟨c, hc⟩ : ∃ c, c = ckAt l n := ⟨_, rfl⟩
  rw [← hc] at hckb HN0 HNX
  have HC := Lib.hid hc
  clear hc
  obtain ⟨N, hN⟩ : ∃ N, N = nxtW l v n := ⟨_, rfl⟩
  rw [← hN] at HN0 HNX
  have HNN := Lib.hid (show N.wk = v.wk ∧ N.kd = v.kd ∧ N.ow = v.ow ∧ N.on = v.on ∧ N.tx = v.tx ∧ N.ck = c from by rw [HNX.out]; exact ⟨rfl, rfl, rfl, rfl, rfl, rfl⟩)
  have HNI := Lib.hid hN
  clear hN
  rcases Nat.eq_zero_or_pos n with h0 | h0
  · subst h0
    have hc1 : c = 1 := HC.out
    have hbx : BoxW ((w'.setCell ⟨w.heap.size, 1, none⟩ (.int .i64 ((m : Int) + 1))).setCell ⟨w.heap.size, 2, none⟩ (.int .i64 1)) w.heap.size N := by rw [HNX.out, hc1]; exact (HB3.out.num _).ck 1
    have hk12 : Kp (Kq.One w.heap.size) w' ((w'.setCell ⟨w.heap.size, 1, none⟩ (.int .i64 ((m : Int) + 1))).setCell ⟨w.heap.size, 2, none⟩ (.int .i64 1)) := (kp_setOne _ _ _ _).tr (kp_setOne _ _ _ _)
    have HN1 := Lib.hid (HN0.out.trans (if_neg (by omega)))
    have hNe : ({ v with num := (m : Int) + 1, ck := 1 } : Wk) = N := by rw [HNX.out, hc1]
    have HNE := Lib.hid hNe
    have HBX := Lib.hid hbx
    have HK12 := Lib.hid hk12
    clear hc1 hbx hk12 hNe
    go_wp2_with fail
    change Calls Try.prog 42 #[Wk.val { v with num := (m : Int) + 1, ck := 1 }] _ _
    rw [HNE.out]
    replace hk1 := hk1.trans HK12.out fun k hk e => by have e : k = w.heap.size := e; omega
    replace HB4 := Lib.hid (HB4.out.kp HK12.out fun e => by have e : w.heap.size + 1 = w.heap.size := e; omega)
    clear HB3 HK12 HNE b0 b1 b2 b3 b4 b5 b6 b7 b8 b9 b10 g1 g2
    generalize ((w'.setCell ⟨w.heap.size, 1, none⟩ (.int .i64 ((m : Int) + 1))).setCell ⟨w.heap.size, 2, none⟩ (.int .i64 1)) = w2 at hk1 HB4 HBX ⊢
    with_reducible refine (rvalid_any N w2 (by rw [HNN.out.2.2.2.2.1]; exact hsz)).mono ?_
    cases hok : okW N with
    | false =>
      have HN := Lib.hid (show nextV l v = (default, 2) by rw [HN1.out, hok]; rfl)
      rintro e w3 ⟨rfl, hkv⟩
      have hk3 := hk1.tr hkv
      replace HB4 := Lib.hid (HB4.out.kp hkv id)
      clear hok hkv
      obtain ⟨p0, p1, p2, p3, p4, p5, p6, p7, p8, p9, p10⟩ := HB4.out.at_
      have fz := HB4.out.free
      have f0 := fz 0
      have f1 := fz 1
      have f2 := fz 2
      have f3 := fz 3
      have f4 := fz 4
      have f5 := fz 5
      have f6 := fz 6
      have f7 := fz 7
      have f8 := fz 8
      have f9 := fz 9
      have f10 := fz 10
      simp only [Nat.zero_add] at p1 p2 p3 p4 p5 p6 p7 p8 p9 p10
      clear fz
      go_wp2_with fail
      obtain ⟨hb5, hkz⟩ := HB4.out.put (default : Wk)
      have HK6 := Lib.hid (show Kp No w (putW w3 (w.heap.size + 1) (default : Wk)) from hk3.trans hkz fun k hk e => by have e : k = w.heap.size + 1 := e; omega)
      obtain ⟨r0, r1, r2, r3, r4, r5, r6, r7, r8, r9, r10⟩ := hb5.at_
      simp only [Nat.zero_add] at r1 r2 r3 r4 r5 r6 r7 r8 r9 r10
      clear p0 p1 p2 p3 p4 p5 p6 p7 p8 p9 p10 f0 f1 f2 f3 f4 f5 f6 f7 f8 f9 f10
      change bodyPost _ _ _ _ _ (putW w3 (w.heap.size + 1) (default : Wk))
      generalize putW w3 (w.heap.size + 1) (default : Wk) = W5 at *
      refine bodyPost_ret (v := .tuple #[(default : Wk).val, .int .i64 2]) (by simp [results, Try.results21, go_sem, r0, r1, r2, r3, r4, r5, r6, r7, r8, r9, r10]; try rfl) rfl ⟨by rw [← HRV.out, ← HRE.out, HN.out], HK6.out⟩
    | true =>
      have HN2 := Lib.hid (show nextV l v = if v.kd = 4 ∧ findN l v.onm = none then (default, 4) else (N, 0) by rw [HN1.out, hok]; rfl)
      rintro e w3 ⟨rfl, hkv⟩
      have hk3 := hk1.tr hkv
      replace HB4 := Lib.hid (HB4.out.kp hkv id)
      replace HBX := Lib.hid (HBX.out.kp hkv id)
      clear hok hkv hk1
      obtain ⟨y0, y1, y2, y3, y4, y5, y6, y7, y8, y9, y10⟩ := HBX.out.at_
      simp only [Nat.zero_add] at y1 y2 y3 y4 y5 y6 y7 y8 y9 y10
      by_cases h4 : v.kd = 4
      · have q4 : (N.kd == 4) = true := by rw [beq_iff_eq, HNN.out.2.1]; exact h4
        have hrf := rfind_any A 0 ca l N.ow N.on w3 (HX.out.no hk3) (by omega)
        have HKD := Lib.hid h4
        clear h4
        go_wp2_with fail
        with_reducible refine hrf.mono ?_
        rintro e w5 ⟨rfl, hw5⟩
        rw [hw5]
        cases hf : findN l v.onm with
        | none =>
          have HN := Lib.hid (HN2.out.trans (if_pos ⟨HKD.out, hf⟩))
          have hfi : findI l (N.ow, N.on) = -1 := by
            rw [HNN.out.2.2.1, HNN.out.2.2.2.1]
            have hf : findN l (v.ow, v.on) = none := hf
            unfold findI
            rw [hf]
          rw [hfi]
          obtain ⟨p0, p1, p2, p3, p4, p5, p6, p7, p8, p9, p10⟩ := HB4.out.at_
          have fz := HB4.out.free
          have f0 := fz 0
          have f1 := fz 1
          have f2 := fz 2
          have f3 := fz 3
          have f4 := fz 4
          have f5 := fz 5
          have f6 := fz 6
          have f7 := fz 7
          have f8 := fz 8
          have f9 := fz 9
          have f10 := fz 10
          simp only [Nat.zero_add] at p1 p2 p3 p4 p5 p6 p7 p8 p9 p10
          clear fz
          clear hf hfi hrf
          go_wp2_with fail
          obtain ⟨hb5, hkz⟩ := HB4.out.put (default : Wk)
          have HK6 := Lib.hid (show Kp No w (putW w3 (w.heap.size + 1) (default : Wk)) from hk3.trans hkz fun k hk e => by have e : k = w.heap.size + 1 := e; omega)
          obtain ⟨r0, r1, r2, r3, r4, r5, r6, r7, r8, r9, r10⟩ := hb5.at_
          simp only [Nat.zero_add] at r1 r2 r3 r4 r5 r6 r7 r8 r9 r10
          clear p0 p1 p2 p3 p4 p5 p6 p7 p8 p9 p10 f0 f1 f2 f3 f4 f5 f6 f7 f8 f9 f10
          change bodyPost _ _ _ _ _ (putW w3 (w.heap.size + 1) (default : Wk))
          generalize putW w3 (w.heap.size + 1) (default : Wk) = W5 at *
          refine bodyPost_ret (v := .tuple #[(default : Wk).val, .int .i64 4]) (by simp [results, Try.results21, go_sem, r0, r1, r2, r3, r4, r5, r6, r7, r8, r9, r10]; try rfl) rfl ⟨by rw [← HRV.out, ← HRE.out, HN.out], HK6.out⟩
        | some k =>
          have HN := Lib.hid (HN2.out.trans (if_neg (by rw [hf]; simp)))
          have hfi : findI l (N.ow, N.on) = k := by
            rw [HNN.out.2.2.1, HNN.out.2.2.2.1]
            have hf : findN l (v.ow, v.on) = some k := hf
            unfold findI
            rw [hf]
          rw [hfi]
          have hkn : decide ((k : Int) < 0) = false := by rw [decide_eq_false_iff_not]; omega
          obtain ⟨p0, p1, p2, p3, p4, p5, p6, p7, p8, p9, p10⟩ := HB4.out.at_
          have fz := HB4.out.free
          have f0 := fz 0
          have f1 := fz 1
          have f2 := fz 2
          have f3 := fz 3
          have f4 := fz 4
          have f5 := fz 5
          have f6 := fz 6
          have f7 := fz 7
          have f8 := fz 8
          have f9 := fz 9
          have f10 := fz 10
          simp only [Nat.zero_add] at p1 p2 p3 p4 p5 p6 p7 p8 p9 p10
          clear fz
          clear hf hfi hrf
          go_wp2_with fail
          obtain ⟨hb5, hkz⟩ := HB4.out.put N
          have HK6 := Lib.hid (show Kp No w (putW w3 (w.heap.size + 1) N) from hk3.trans hkz fun k hk e => by have e : k = w.heap.size + 1 := e; omega)
          obtain ⟨r0, r1, r2, r3, r4, r5, r6, r7, r8, r9, r10⟩ := hb5.at_
          simp only [Nat.zero_add] at r1 r2 r3 r4 r5 r6 r7 r8 r9 r10
          clear p0 p1 p2 p3 p4 p5 p6 p7 p8 p9 p10 f0 f1 f2 f3 f4 f5 f6 f7 f8 f9 f10
          change bodyPost _ _ _ _ _ (putW w3 (w.heap.size + 1) N)
          generalize putW w3 (w.heap.size + 1) N = W5 at *
          refine bodyPost_ret (v := .tuple #[N.val, .int .i64 0]) (by simp [results, Try.results21, go_sem, r0, r1, r2, r3, r4, r5, r6, r7, r8, r9, r10]; try rfl) rfl ⟨by rw [← HRV.out, ← HRE.out, HN.out], HK6.out⟩
      · have q4 : (N.kd == 4) = false := by rw [beq_eq_false_iff_ne, HNN.out.2.1]; exact h4
        have HN := Lib.hid (HN2.out.trans (if_neg (fun h => h4 h.1)))
        clear h4
        obtain ⟨p0, p1, p2, p3, p4, p5, p6, p7, p8, p9, p10⟩ := HB4.out.at_
        have fz := HB4.out.free
        have f0 := fz 0
        have f1 := fz 1
        have f2 := fz 2
        have f3 := fz 3
        have f4 := fz 4
        have f5 := fz 5
        have f6 := fz 6
        have f7 := fz 7
        have f8 := fz 8
        have f9 := fz 9
        have f10 := fz 10
        simp only [Nat.zero_add] at p1 p2 p3 p4 p5 p6 p7 p8 p9 p10
        clear fz
        go_wp2_with fail
        obtain ⟨hb5, hkz⟩ := HB4.out.put N
        have HK6 := Lib.hid (show Kp No w (putW w3 (w.heap.size + 1) N) from hk3.trans hkz fun k hk e => by have e : k = w.heap.size + 1 := e; omega)
        obtain ⟨r0, r1, r2, r3, r4, r5, r6, r7, r8, r9, r10⟩ := hb5.at_
        simp only [Nat.zero_add] at r1 r2 r3 r4 r5 r6 r7 r8 r9 r10
        clear p0 p1 p2 p3 p4 p5 p6 p7 p8 p9 p10 f0 f1 f2 f3 f4 f5 f6 f7 f8 f9 f10
        change bodyPost _ _ _ _ _ (putW w3 (w.heap.size + 1) N)
        generalize putW w3 (w.heap.size + 1) N = W5 at *
        refine bodyPost_ret (v := .tuple #[N.val, .int .i64 0]) (by simp [results, Try.results21, go_sem, r0, r1, r2, r3, r4, r5, r6, r7, r8, r9, r10]; try rfl) rfl ⟨by rw [← HRV.out, ← HRE.out, HN.out], HK6.out⟩
  · obtain ⟨j, rfl⟩ : ∃ j, n = j + 1 := ⟨n - 1, by omega⟩
    obtain ⟨u, hu⟩ : ∃ u, l[j]? = some u := ⟨_, List.getElem?_eq_getElem (by rw [HL.out]; omega)⟩
    obtain ⟨bu, ou, rfl, _, hau⟩ := RdW.at_ (HX.out.no hk1) hu
    obtain ⟨_, _, c2, _⟩ := hau
    have hcu : c = u.ck + 1 := by have h := HC.out; rw [h]; show (match l[j]? with | some u => u.ck + 1 | none => 1) = _; rw [hu]
    have hbu : bu ≠ w.heap.size := fun e => by
      obtain ⟨b', o', hbo, hlt', _⟩ := HX.out.2 j u hu
      cases hbo
      omega
    have hbu2 : w.heap.size ≠ bu := fun e => hbu e.symm
    have hck2 : u.ck ≤ 1000000000 := by omega
    have hck1 : 0 ≤ u.ck := by
      have := HR.out.ok u (List.mem_of_getElem? hu)
      unfold okW at this
      simp only [Bool.and_eq_true, decide_eq_true_eq] at this
      omega
    rw [show ((j + 1 : Nat) : Int) = (j : Int) + 1 by omega] at *
    clear hu h0
    subst hcu
    have hbx : BoxW (((w'.setCell ⟨w.heap.size, 1, none⟩ (.int .i64 ((m : Int) + 1))).setCell ⟨w.heap.size, 2, none⟩ (.int .i64 1)).setCell ⟨w.heap.size, 2, none⟩ (.int .i64 (u.ck + 1))) w.heap.size N := by rw [HNX.out]; exact ((HB3.out.num _).ck 1).ck (u.ck + 1)
    have hk12 : Kp (Kq.One w.heap.size) w' (((w'.setCell ⟨w.heap.size, 1, none⟩ (.int .i64 ((m : Int) + 1))).setCell ⟨w.heap.size, 2, none⟩ (.int .i64 1)).setCell ⟨w.heap.size, 2, none⟩ (.int .i64 (u.ck + 1))) := ((kp_setOne _ _ _ _).tr (kp_setOne _ _ _ _)).tr (kp_setOne _ _ _ _)
    have e2 := hbx.at_.2.2.1
    rw [Nat.zero_add, HNN.out.2.2.2.2.2] at e2
    have hNe : ({ v with num := (m : Int) + 1, ck := u.ck + 1 } : Wk) = N := HNX.out.symm
    have HNE := Lib.hid hNe
    have HBX := Lib.hid hbx
    have HK12 := Lib.hid hk12
    clear hbx hk12 hNe
    by_cases hbig : 1000000000 < u.ck + 1
    · have HN := Lib.hid (HN0.out.trans (if_pos hbig))
      have qb : decide ((1000000000 : Int) < u.ck + 1) = true := decide_eq_true hbig
      replace hk1 := hk1.trans HK12.out fun k hk e => by have e : k = w.heap.size := e; omega
      have HB4' := Lib.hid (HB4.out.kp HK12.out fun e => by have e : w.heap.size + 1 = w.heap.size := e; omega)
      obtain ⟨p0, p1, p2, p3, p4, p5, p6, p7, p8, p9, p10⟩ := HB4'.out.at_
      have fz := HB4'.out.free
      have f0 := fz 0
      have f1 := fz 1
      have f2 := fz 2
      have f3 := fz 3
      have f4 := fz 4
      have f5 := fz 5
      have f6 := fz 6
      have f7 := fz 7
      have f8 := fz 8
      have f9 := fz 9
      have f10 := fz 10
      simp only [Nat.zero_add] at p1 p2 p3 p4 p5 p6 p7 p8 p9 p10
      clear fz
      clear hbig
      go_wp2_with fail
      replace HB4 := HB4'
      generalize (((w'.setCell ⟨w.heap.size, 1, none⟩ (.int .i64 ((m : Int) + 1))).setCell ⟨w.heap.size, 2, none⟩ (.int .i64 1)).setCell ⟨w.heap.size, 2, none⟩ (.int .i64 (u.ck + 1))) = w2 at hk1 HB4 ⊢
      obtain ⟨hb5, hkz⟩ := HB4.out.put (default : Wk)
      have HK6 := Lib.hid (show Kp No w (putW w2 (w.heap.size + 1) (default : Wk)) from hk1.trans hkz fun k hk e => by have e : k = w.heap.size + 1 := e; omega)
      obtain ⟨r0, r1, r2, r3, r4, r5, r6, r7, r8, r9, r10⟩ := hb5.at_
      simp only [Nat.zero_add] at r1 r2 r3 r4 r5 r6 r7 r8 r9 r10
      clear p0 p1 p2 p3 p4 p5 p6 p7 p8 p9 p10 f0 f1 f2 f3 f4 f5 f6 f7 f8 f9 f10
      change bodyPost _ _ _ _ _ (putW w2 (w.heap.size + 1) (default : Wk))
      generalize putW w2 (w.heap.size + 1) (default : Wk) = W5 at *
      refine bodyPost_ret (v := .tuple #[(default : Wk).val, .int .i64 7]) (by simp [results, Try.results21, go_sem, r0, r1, r2, r3, r4, r5, r6, r7, r8, r9, r10]; try rfl) rfl ⟨by rw [← HRV.out, ← HRE.out, HN.out], HK6.out⟩
    have HN1 := Lib.hid (HN0.out.trans (if_neg hbig))
    have qb : decide ((1000000000 : Int) < u.ck + 1) = false := decide_eq_false hbig
    clear hbig
    go_wp2_with fail
    change Calls Try.prog 42 #[Wk.val { v with num := (m : Int) + 1, ck := u.ck + 1 }] _ _
    rw [HNE.out]
    replace hk1 := hk1.trans HK12.out fun k hk e => by have e : k = w.heap.size := e; omega
    replace HB4 := Lib.hid (HB4.out.kp HK12.out fun e => by have e : w.heap.size + 1 = w.heap.size := e; omega)
    clear HB3 HK12 HNE b0 b1 b2 b3 b4 b5 b6 b7 b8 b9 b10 g1 g2 e2 c2 hbu hbu2
    generalize (((w'.setCell ⟨w.heap.size, 1, none⟩ (.int .i64 ((m : Int) + 1))).setCell ⟨w.heap.size, 2, none⟩ (.int .i64 1)).setCell ⟨w.heap.size, 2, none⟩ (.int .i64 (u.ck + 1))) = w2 at hk1 HB4 HBX ⊢
    with_reducible refine (rvalid_any N w2 (by rw [HNN.out.2.2.2.2.1]; exact hsz)).mono ?_
    cases hok : okW N with
    | false =>
      have HN := Lib.hid (show nextV l v = (default, 2) by rw [HN1.out, hok]; rfl)
      rintro e w3 ⟨rfl, hkv⟩
      have hk3 := hk1.tr hkv
      replace HB4 := Lib.hid (HB4.out.kp hkv id)
      clear hok hkv
      obtain ⟨p0, p1, p2, p3, p4, p5, p6, p7, p8, p9, p10⟩ := HB4.out.at_
      have fz := HB4.out.free
      have f0 := fz 0
      have f1 := fz 1
      have f2 := fz 2
      have f3 := fz 3
      have f4 := fz 4
      have f5 := fz 5
      have f6 := fz 6
      have f7 := fz 7
      have f8 := fz 8
      have f9 := fz 9
      have f10 := fz 10
      simp only [Nat.zero_add] at p1 p2 p3 p4 p5 p6 p7 p8 p9 p10
      clear fz
      go_wp2_with fail
      obtain ⟨hb5, hkz⟩ := HB4.out.put (default : Wk)
      have HK6 := Lib.hid (show Kp No w (putW w3 (w.heap.size + 1) (default : Wk)) from hk3.trans hkz fun k hk e => by have e : k = w.heap.size + 1 := e; omega)
      obtain ⟨r0, r1, r2, r3, r4, r5, r6, r7, r8, r9, r10⟩ := hb5.at_
      simp only [Nat.zero_add] at r1 r2 r3 r4 r5 r6 r7 r8 r9 r10
      clear p0 p1 p2 p3 p4 p5 p6 p7 p8 p9 p10 f0 f1 f2 f3 f4 f5 f6 f7 f8 f9 f10
      change bodyPost _ _ _ _ _ (putW w3 (w.heap.size + 1) (default : Wk))
      generalize putW w3 (w.heap.size + 1) (default : Wk) = W5 at *
      refine bodyPost_ret (v := .tuple #[(default : Wk).val, .int .i64 2]) (by simp [results, Try.results21, go_sem, r0, r1, r2, r3, r4, r5, r6, r7, r8, r9, r10]; try rfl) rfl ⟨by rw [← HRV.out, ← HRE.out, HN.out], HK6.out⟩
    | true =>
      have HN2 := Lib.hid (show nextV l v = if v.kd = 4 ∧ findN l v.onm = none then (default, 4) else (N, 0) by rw [HN1.out, hok]; rfl)
      rintro e w3 ⟨rfl, hkv⟩
      have hk3 := hk1.tr hkv
      replace HB4 := Lib.hid (HB4.out.kp hkv id)
      replace HBX := Lib.hid (HBX.out.kp hkv id)
      clear hok hkv hk1
      obtain ⟨y0, y1, y2, y3, y4, y5, y6, y7, y8, y9, y10⟩ := HBX.out.at_
      simp only [Nat.zero_add] at y1 y2 y3 y4 y5 y6 y7 y8 y9 y10
      by_cases h4 : v.kd = 4
      · have q4 : (N.kd == 4) = true := by rw [beq_iff_eq, HNN.out.2.1]; exact h4
        have hrf := rfind_any (some ⟨bu, ou, none⟩) (j + 1) ca l N.ow N.on w3 (HX.out.no hk3) (by omega)
        have HKD := Lib.hid h4
        clear h4
        go_wp2_with fail
        with_reducible refine hrf.mono ?_
        rintro e w5 ⟨rfl, hw5⟩
        rw [hw5]
        cases hf : findN l v.onm with
        | none =>
          have HN := Lib.hid (HN2.out.trans (if_pos ⟨HKD.out, hf⟩))
          have hfi : findI l (N.ow, N.on) = -1 := by
            rw [HNN.out.2.2.1, HNN.out.2.2.2.1]
            have hf : findN l (v.ow, v.on) = none := hf
            unfold findI
            rw [hf]
          rw [hfi]
          obtain ⟨p0, p1, p2, p3, p4, p5, p6, p7, p8, p9, p10⟩ := HB4.out.at_
          have fz := HB4.out.free
          have f0 := fz 0
          have f1 := fz 1
          have f2 := fz 2
          have f3 := fz 3
          have f4 := fz 4
          have f5 := fz 5
          have f6 := fz 6
          have f7 := fz 7
          have f8 := fz 8
          have f9 := fz 9
          have f10 := fz 10
          simp only [Nat.zero_add] at p1 p2 p3 p4 p5 p6 p7 p8 p9 p10
          clear fz
          clear hf hfi hrf
          go_wp2_with fail
          obtain ⟨hb5, hkz⟩ := HB4.out.put (default : Wk)
          have HK6 := Lib.hid (show Kp No w (putW w3 (w.heap.size + 1) (default : Wk)) from hk3.trans hkz fun k hk e => by have e : k = w.heap.size + 1 := e; omega)
          obtain ⟨r0, r1, r2, r3, r4, r5, r6, r7, r8, r9, r10⟩ := hb5.at_
          simp only [Nat.zero_add] at r1 r2 r3 r4 r5 r6 r7 r8 r9 r10
          clear p0 p1 p2 p3 p4 p5 p6 p7 p8 p9 p10 f0 f1 f2 f3 f4 f5 f6 f7 f8 f9 f10
          change bodyPost _ _ _ _ _ (putW w3 (w.heap.size + 1) (default : Wk))
          generalize putW w3 (w.heap.size + 1) (default : Wk) = W5 at *
          refine bodyPost_ret (v := .tuple #[(default : Wk).val, .int .i64 4]) (by simp [results, Try.results21, go_sem, r0, r1, r2, r3, r4, r5, r6, r7, r8, r9, r10]; try rfl) rfl ⟨by rw [← HRV.out, ← HRE.out, HN.out], HK6.out⟩
        | some k =>
          have HN := Lib.hid (HN2.out.trans (if_neg (by rw [hf]; simp)))
          have hfi : findI l (N.ow, N.on) = k := by
            rw [HNN.out.2.2.1, HNN.out.2.2.2.1]
            have hf : findN l (v.ow, v.on) = some k := hf
            unfold findI
            rw [hf]
          rw [hfi]
          have hkn : decide ((k : Int) < 0) = false := by rw [decide_eq_false_iff_not]; omega
          obtain ⟨p0, p1, p2, p3, p4, p5, p6, p7, p8, p9, p10⟩ := HB4.out.at_
          have fz := HB4.out.free
          have f0 := fz 0
          have f1 := fz 1
          have f2 := fz 2
          have f3 := fz 3
          have f4 := fz 4
          have f5 := fz 5
          have f6 := fz 6
          have f7 := fz 7
          have f8 := fz 8
          have f9 := fz 9
          have f10 := fz 10
          simp only [Nat.zero_add] at p1 p2 p3 p4 p5 p6 p7 p8 p9 p10
          clear fz
          clear hf hfi hrf
          go_wp2_with fail
          obtain ⟨hb5, hkz⟩ := HB4.out.put N
          have HK6 := Lib.hid (show Kp No w (putW w3 (w.heap.size + 1) N) from hk3.trans hkz fun k hk e => by have e : k = w.heap.size + 1 := e; omega)
          obtain ⟨r0, r1, r2, r3, r4, r5, r6, r7, r8, r9, r10⟩ := hb5.at_
          simp only [Nat.zero_add] at r1 r2 r3 r4 r5 r6 r7 r8 r9 r10
          clear p0 p1 p2 p3 p4 p5 p6 p7 p8 p9 p10 f0 f1 f2 f3 f4 f5 f6 f7 f8 f9 f10
          change bodyPost _ _ _ _ _ (putW w3 (w.heap.size + 1) N)
          generalize putW w3 (w.heap.size + 1) N = W5 at *
          refine bodyPost_ret (v := .tuple #[N.val, .int .i64 0]) (by simp [results, Try.results21, go_sem, r0, r1, r2, r3, r4, r5, r6, r7, r8, r9, r10]; try rfl) rfl ⟨by rw [← HRV.out, ← HRE.out, HN.out], HK6.out⟩
      · have q4 : (N.kd == 4) = false := by rw [beq_eq_false_iff_ne, HNN.out.2.1]; exact h4
        have HN := Lib.hid (HN2.out.trans (if_neg (fun h => h4 h.1)))
        clear h4
        obtain ⟨p0, p1, p2, p3, p4, p5, p6, p7, p8, p9, p10⟩ := HB4.out.at_
        have fz := HB4.out.free
        have f0 := fz 0
        have f1 := fz 1
        have f2 := fz 2
        have f3 := fz 3
        have f4 := fz 4
        have f5 := fz 5
        have f6 := fz 6
        have f7 := fz 7
        have f8 := fz 8
        have f9 := fz 9
        have f10 := fz 10
        simp only [Nat.zero_add] at p1 p2 p3 p4 p5 p6 p7 p8 p9 p10
        clear fz
        go_wp2_with fail
        obtain ⟨hb5, hkz⟩ := HB4.out.put N
        have HK6 := Lib.hid (show Kp No w (putW w3 (w.heap.size + 1) N) from hk3.trans hkz fun k hk e => by have e : k = w.heap.size + 1 := e; omega)
        obtain ⟨r0, r1, r2, r3, r4, r5, r6, r7, r8, r9, r10⟩ := hb5.at_
        simp only [Nat.zero_add] at r1 r2 r3 r4 r5 r6 r7 r8 r9 r10
        clear p0 p1 p2 p3 p4 p5 p6 p7 p8 p9 p10 f0 f1 f2 f3 f4 f5 f6 f7 f8 f9 f10
        change bodyPost _ _ _ _ _ (putW w3 (w.heap.size + 1) N)
        generalize putW w3 (w.heap.size + 1) N = W5 at *
        refine bodyPost_ret (v := .tuple #[N.val, .int .i64 0]) (by simp [results, Try.results21, go_sem, r0, r1, r2, r3, r4, r5, r6, r7, r8, r9, r10]; try rfl) rfl ⟨by rw [← HRV.out, ← HRE.out, HN.out], HK6.out⟩
end Go.Proofs.Ytjbpdimepckmfaa
