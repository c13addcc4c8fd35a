/- Chapter 27: Next: the walk. Printed by gen_nxt.py. -/
import Derived.Test.YtjbpdimepckmfaaXNxtPM
import Derived.Test.YtjbpdimepckmfaaXChkW
import Derived.Test.YtjbpdimepckmfaaXUndM
namespace Go.Proofs.Ytjbpdimepckmfaa
open Go.RowKit Go.Kq

set_option maxHeartbeats 3000000 in
set_option maxRecDepth 100000 in
theorem Next_any (A : Option Addr) (n ca : Nat) (l : List Wk) (v : Wk) (w : World) (hx : RdW w A n l) (hf : Fits l) (hv : v.tx.size ≤ maxLen) :
    Calls Try.prog 20 #[.slice A n ca, v.val] w fun e w' => e = .returned (.tuple #[(nextV l v).1.val, .int .i64 (nextV l v).2]) ∧ Kp No w w' := by
  have CA := fun w' (k : Kp No w w') => Check_any A n ca l w' (hx.no k) hf
  have HCA := Lib.hid CA
  have HX := Lib.hid hx
  have HL := Lib.hid hx.1
  obtain ⟨RV, hRV⟩ : ∃ RV, (nextV l v).1.val = RV := ⟨_, rfl⟩
  obtain ⟨re, hre⟩ : ∃ re, (nextV l v).2 = re := ⟨_, rfl⟩
  rw [hRV, hre]
  have HRV := Lib.hid hRV
  have HRE := Lib.hid hre
  have hsz : v.tx.size ≤ maxLen := hv
  have hcel : (.cells #[.int .i64 v.wk, .int .i64 v.num, .int .i64 v.ck, .int .i64 v.kd, .int .i64 v.rk, .int .i64 v.nt, .int .i64 v.fd, .int .i64 v.vl, .int .i64 v.ow, .int .i64 v.on, .string v.tx] 41 : Obj) = .cells v.cells.toArray 41 := rfl
  have HCEL := Lib.hid hcel
  simp only [Wk.val]
  clear CA hx hf hv hRV hre hcel
  by_cases h1 : chkL l = 0
  rotate_left
  · have q1 : (chkL l != 0) = true := by rw [bne_iff_ne]; exact h1
    have HN := Lib.hid (show nextV l v = (default, chkL l) by unfold nextV; rw [if_pos h1])
    generalize chkL l = e0 at HCA q1 HN
    clear h1
    go_enter Try.func20, Try.ntmps20
    go_wp2_with fail
    rw [HCEL.out]
    obtain ⟨W0, hW0⟩ : ∃ W0, W0 = (w.alloc (.cells v.cells.toArray 41)).alloc (.cells (default : Wk).cells.toArray 41) := ⟨_, rfl⟩
    have hk0 : Kp No w W0 := by rw [hW0]; exact (Kp.alloc _ _ _).tr (Kp.alloc _ _ _)
    have hb30 : BoxW W0 w.heap.size v := by rw [hW0]; exact (Kp.alloc No _ _).heap (heap_alloc_new _ _) id
    have hb40 : BoxW W0 (w.heap.size + 1) default := by
      rw [hW0]
      have h := heap_alloc_new (w.alloc (.cells v.cells.toArray 41)) (.cells (default : Wk).cells.toArray 41)
      rw [World.size_alloc] at h
      exact h
    change Calls _ _ _ ((w.alloc (.cells v.cells.toArray 41)).alloc (.cells (default : Wk).cells.toArray 41)) _
    rw [← hW0]
    clear hW0
    with_reducible refine (HCA.out W0 hk0).mono ?_
    rintro e w1 ⟨rfl, hk01⟩
    have hk1 := hk0.tr hk01
    have HB3 := Lib.hid (hb30.kp hk01 id)
    have HB4 := Lib.hid (hb40.kp hk01 id)
    clear hb30 hb40 hk0 hk01
    obtain ⟨p0, p1, p2, p3, p4, p5, p6, p7, p8, p9, p10⟩ := HB4.out.at_
    have fz := HB4.out.free
    have f0 := fz 0
    have f1 := fz 1
    have f2 := fz 2
    have f3 := fz 3
    have f4 := fz 4
    have f5 := fz 5
    have f6 := fz 6
    have f7 := fz 7
    have f8 := fz 8
    have f9 := fz 9
    have f10 := fz 10
    simp only [Nat.zero_add] at p1 p2 p3 p4 p5 p6 p7 p8 p9 p10
    clear fz
    go_wp2_with fail
    obtain ⟨hb5, hkz⟩ := HB4.out.put (default : Wk)
    have HK6 := Lib.hid (show Kp No w (putW w1 (w.heap.size + 1) (default : Wk)) from hk1.trans hkz fun k hk e => by have e : k = w.heap.size + 1 := e; omega)
    obtain ⟨r0, r1, r2, r3, r4, r5, r6, r7, r8, r9, r10⟩ := hb5.at_
    simp only [Nat.zero_add] at r1 r2 r3 r4 r5 r6 r7 r8 r9 r10
    clear p0 p1 p2 p3 p4 p5 p6 p7 p8 p9 p10 f0 f1 f2 f3 f4 f5 f6 f7 f8 f9 f10
    change bodyPost _ _ _ _ _ (putW w1 (w.heap.size + 1) (default : Wk))
    generalize putW w1 (w.heap.size + 1) (default : Wk) = W5 at *
    refine bodyPost_ret (v := .tuple #[(default : Wk).val, .int .i64 e0]) (by simp [results, Try.results20, go_sem, r0, r1, r2, r3, r4, r5, r6, r7, r8, r9, r10]; try rfl) rfl ⟨by rw [← HRV.out, ← HRE.out, HN.out], HK6.out⟩
  by_cases h2 : n = 400
  · have HN := Lib.hid (show nextV l v = (default, 5) by unfold nextV; rw [if_neg (by rw [h1]; simp), if_pos (by rw [HL.out]; exact h2)])
    subst h2
    rw [h1] at HCA
    clear h1
    go_enter Try.func20, Try.ntmps20
    go_wp2_with fail
    rw [HCEL.out]
    obtain ⟨W0, hW0⟩ : ∃ W0, W0 = (w.alloc (.cells v.cells.toArray 41)).alloc (.cells (default : Wk).cells.toArray 41) := ⟨_, rfl⟩
    have hk0 : Kp No w W0 := by rw [hW0]; exact (Kp.alloc _ _ _).tr (Kp.alloc _ _ _)
    have hb30 : BoxW W0 w.heap.size v := by rw [hW0]; exact (Kp.alloc No _ _).heap (heap_alloc_new _ _) id
    have hb40 : BoxW W0 (w.heap.size + 1) default := by
      rw [hW0]
      have h := heap_alloc_new (w.alloc (.cells v.cells.toArray 41)) (.cells (default : Wk).cells.toArray 41)
      rw [World.size_alloc] at h
      exact h
    change Calls _ _ _ ((w.alloc (.cells v.cells.toArray 41)).alloc (.cells (default : Wk).cells.toArray 41)) _
    rw [← hW0]
    clear hW0
    with_reducible refine (HCA.out W0 hk0).mono ?_
    rintro e w1 ⟨rfl, hk01⟩
    have hk1 := hk0.tr hk01
    have HB3 := Lib.hid (hb30.kp hk01 id)
    have HB4 := Lib.hid (hb40.kp hk01 id)
    clear hb30 hb40 hk0 hk01
    obtain ⟨p0, p1, p2, p3, p4, p5, p6, p7, p8, p9, p10⟩ := HB4.out.at_
    have fz := HB4.out.free
    have f0 := fz 0
    have f1 := fz 1
    have f2 := fz 2
    have f3 := fz 3
    have f4 := fz 4
    have f5 := fz 5
    have f6 := fz 6
    have f7 := fz 7
    have f8 := fz 8
    have f9 := fz 9
    have f10 := fz 10
    simp only [Nat.zero_add] at p1 p2 p3 p4 p5 p6 p7 p8 p9 p10
    clear fz
    go_wp2_with fail
    obtain ⟨hb5, hkz⟩ := HB4.out.put (default : Wk)
    have HK6 := Lib.hid (show Kp No w (putW w1 (w.heap.size + 1) (default : Wk)) from hk1.trans hkz fun k hk e => by have e : k = w.heap.size + 1 := e; omega)
    obtain ⟨r0, r1, r2, r3, r4, r5, r6, r7, r8, r9, r10⟩ := hb5.at_
    simp only [Nat.zero_add] at r1 r2 r3 r4 r5 r6 r7 r8 r9 r10
    clear p0 p1 p2 p3 p4 p5 p6 p7 p8 p9 p10 f0 f1 f2 f3 f4 f5 f6 f7 f8 f9 f10
    change bodyPost _ _ _ _ _ (putW w1 (w.heap.size + 1) (default : Wk))
    generalize putW w1 (w.heap.size + 1) (default : Wk) = W5 at *
    refine bodyPost_ret (v := .tuple #[(default : Wk).val, .int .i64 5]) (by simp [results, Try.results20, go_sem, r0, r1, r2, r3, r4, r5, r6, r7, r8, r9, r10]; try rfl) rfl ⟨by rw [← HRV.out, ← HRE.out, HN.out], HK6.out⟩
  have R := rec_of h1
  have hn4 : n ≤ 400 := by rw [← HL.out]; exact R.len
  have HR := Lib.hid R
  rw [h1] at HCA
  have HN0 := Lib.hid (show nextV l v = if 1000000000 < ckAt l n then (default, 7) else if okW (nxtW l v n) then if v.kd = 4 ∧ findN l v.onm = none then (default, 4) else (nxtW l v n, 0) else (default, 2) by unfold nextV; rw [if_neg (by rw [h1]; simp), if_neg (by rw [HL.out]; exact h2), HL.out])
  have q400 : ((n : Int) == 400) = false := by rw [beq_eq_false_iff_ne]; omega
  clear R h1 h2
  go_enter Try.func20, Try.ntmps20
  go_wp2_with fail
  rw [HCEL.out]
  obtain ⟨W0, hW0⟩ : ∃ W0, W0 = (w.alloc (.cells v.cells.toArray 41)).alloc (.cells (default : Wk).cells.toArray 41) := ⟨_, rfl⟩
  have hk0 : Kp No w W0 := by rw [hW0]; exact (Kp.alloc _ _ _).tr (Kp.alloc _ _ _)
  have hb30 : BoxW W0 w.heap.size v := by rw [hW0]; exact (Kp.alloc No _ _).heap (heap_alloc_new _ _) id
  have hb40 : BoxW W0 (w.heap.size + 1) default := by
    rw [hW0]
    have h := heap_alloc_new (w.alloc (.cells v.cells.toArray 41)) (.cells (default : Wk).cells.toArray 41)
    rw [World.size_alloc] at h
    exact h
  change Calls _ _ _ ((w.alloc (.cells v.cells.toArray 41)).alloc (.cells (default : Wk).cells.toArray 41)) _
  rw [← hW0]
  clear hW0
  with_reducible refine (HCA.out W0 hk0).mono ?_
  rintro e w1 ⟨rfl, hk01⟩
  have hk1 := hk0.tr hk01
  have HB3 := Lib.hid (hb30.kp hk01 id)
  have HB4 := Lib.hid (hb40.kp hk01 id)
  clear hb30 hb40 hk0 hk01
  obtain ⟨_, b1, b2, _⟩ := HB3.out.at_
  have g1 := HB3.out.free 1
  have g2 := HB3.out.free 2
  simp only [Nat.zero_add] at b1 b2
  go_wp2_with fail
  have HB32 : Hid (BoxW ((w1.setCell ⟨w.heap.size, 1, none⟩ (.int .i64 1)).setCell ⟨w.heap.size, 2, none⟩ (.int .i64 1)) w.heap.size (nxtW l v 0)) := Lib.hid ((HB3.out.num 1).ck 1)
  have hk12 : Kp (Kq.One w.heap.size) w1 ((w1.setCell ⟨w.heap.size, 1, none⟩ (.int .i64 1)).setCell ⟨w.heap.size, 2, none⟩ (.int .i64 1)) := (kp_setOne _ _ _ _).tr (kp_setOne _ _ _ _)
  have hk2 := hk1.trans hk12 fun k hk e => by have e : k = w.heap.size := e; omega
  have HB42 := Lib.hid (HB4.out.kp hk12 fun e => by have e : w.heap.size + 1 = w.heap.size := e; omega)
  clear hk12 b1 b2 g1 g2 hk1 HB3 HB4
  generalize (w1.setCell ⟨w.heap.size, 1, none⟩ (.int .i64 1)).setCell ⟨w.heap.size, 2, none⟩ (.int .i64 1) = w2 at HB32 hk2 HB42 ⊢
  go_loopw [24] (fun vi wr => ∃ i : Nat, i ≤ n ∧ vi = .int .i64 i ∧ BoxW wr w.heap.size (nxtW l v i) ∧ BoxW wr (w.heap.size + 1) default ∧ Kp No w wr) (fun vi _ => n - (intOf vi).toNat)
  case atStart => exact ⟨0, by omega, rfl, HB32.out, HB42.out, hk2⟩
  case round =>
    obtain ⟨i, hi, rfl, hb3, hb4, hkw⟩ := hrel
    have HB3 := Lib.hid hb3
    have HB4 := Lib.hid hb4
    clear hb3 hb4 HB32 HB42 hk2
    by_cases hlt : i < n
    · obtain ⟨u, hu⟩ : ∃ u, l[i]? = some u := ⟨_, List.getElem?_eq_getElem (by rw [HL.out]; omega)⟩
      obtain ⟨bu, ou, rfl, _, hau⟩ := RdW.at_ (HX.out.no hkw) hu
      obtain ⟨c0, _, c2, _⟩ := hau
      obtain ⟨b0, b1, b2, _⟩ := HB3.out.at_
      have g1 := HB3.out.free 1
      have g2 := HB3.out.free 2
      simp only [Nat.zero_add] at b1 b2
      have hck : 1 ≤ u.ck ∧ u.ck ≤ 1000000000 := by
        have := HR.out.ok u (List.mem_of_getElem? hu)
        unfold okW at this
        simp only [Bool.and_eq_true, decide_eq_true_eq] at this
        omega
      have HMS := Lib.hid (show many (l.take (i + 1)) v.wk = many (l.take i) v.wk + if u.wk = v.wk then 1 else 0 by rw [List.take_add_one, hu]; exact many_snoc _ _ _)
      have HCK := Lib.hid (show ckAt l (i + 1) = u.ck + 1 by show (match l[i]? with | some u => u.ck + 1 | none => 1) = _; rw [hu])
      obtain ⟨m, hm⟩ : ∃ m, m = many (l.take i) v.wk := ⟨_, rfl⟩
      have hm4 : m ≤ 400 := by rw [hm]; have := many_le (l.take i) v.wk; rw [List.length_take] at this; omega
      have b0' : wr.cell? ⟨w.heap.size, 0, none⟩ = some (.int .i64 v.wk) := b0
      have b1' : wr.cell? ⟨w.heap.size, 1, none⟩ = some (.int .i64 ((m : Int) + 1)) := by rw [hm]; exact b1
      rw [← hm] at HMS
      have HM := Lib.hid hm
      have HU := Lib.hid hu
      clear hu hm b0 b1
      by_cases he : u.wk = v.wk
      · have q0 : (u.wk == v.wk) = true := by rw [beq_iff_eq]; exact he
        have HM2 := Lib.hid (HMS.out.trans (by rw [if_pos he]))
        clear he
        go_wp2_with fail
        go_quiet (fail)
        have d0 : (wr.drewN nq).cell? ⟨w.heap.size, 1, none⟩ = some (.int .i64 ((m : Int) + 1)) := b1'
        have d1 : (wr.drewN nq).cell? ⟨w.heap.size, 2, none⟩ = some (.int .i64 (nxtW l v i).ck) := b2
        have d2 : (wr.drewN nq).frozen? ⟨w.heap.size, 1, none⟩ = false := g1
        have d3 : (wr.drewN nq).frozen? ⟨w.heap.size, 2, none⟩ = false := g2
        have d4 : (wr.drewN nq).cell? ⟨bu, ou + i * 11 + 2, none⟩ = some (.int .i64 u.ck) := c2
        have HBD := Lib.hid (HB3.out.kp (Kp.drewN No wr nq) id)
        have HBE := Lib.hid (HB4.out.kp (Kp.drewN No wr nq) id)
        have hkd := hkw.tr (Kp.drewN No wr nq)
        have hbu : bu ≠ w.heap.size := fun e => by
          obtain ⟨b', o', hbo, hlt', _⟩ := HX.out.2 i u HU.out
          cases hbo
          omega
        have hbu2 : w.heap.size ≠ bu := fun e => hbu e.symm
        have HNX := Lib.hid (show nxtW l v (i + 1) = { v with num := (m : Int) + 1 + 1, ck := u.ck + 1 } by unfold nxtW; rw [HM2.out, HCK.out]; simp)
        clear b0' b1' b2 g1 g2 c0 c2 hkw HB3 HB4
        generalize wr.drewN nq = w8 at d0 d1 d2 d3 d4 HBD HBE hkd ⊢
        go_wp2_with fail
        go_roundw
        case rel =>
          have hs := (HBD.out.num ((m : Int) + 1 + 1)).ck (u.ck + 1)
          have hk : Kp (Kq.One w.heap.size) w8 ((w8.setCell ⟨w.heap.size, 1, none⟩ (.int .i64 ((m : Int) + 1 + 1))).setCell ⟨w.heap.size, 2, none⟩ (.int .i64 (u.ck + 1))) := (kp_setOne _ _ _ _).tr (kp_setOne _ _ _ _)
          exact ⟨i + 1, by omega, by go_num, by rw [HNX.out]; exact hs, HBE.out.kp hk fun e => by have e : w.heap.size + 1 = w.heap.size := e; omega, hkd.trans hk fun k hk e => by have e : k = w.heap.size := e; omega⟩
        case measure => simp [intOf]; omega
      · have q0 : (u.wk == v.wk) = false := by rw [beq_eq_false_iff_ne]; exact he
        have HM2 := Lib.hid (HMS.out.trans (by rw [if_neg he, Nat.add_zero]))
        clear he
        go_wp2_with fail
        go_quiet (fail)
        have d1 : (wr.drewN nq).cell? ⟨w.heap.size, 2, none⟩ = some (.int .i64 (nxtW l v i).ck) := b2
        have d3 : (wr.drewN nq).frozen? ⟨w.heap.size, 2, none⟩ = false := g2
        have d4 : (wr.drewN nq).cell? ⟨bu, ou + i * 11 + 2, none⟩ = some (.int .i64 u.ck) := c2
        have HBD := Lib.hid (HB3.out.kp (Kp.drewN No wr nq) id)
        have HBE := Lib.hid (HB4.out.kp (Kp.drewN No wr nq) id)
        have hkd := hkw.tr (Kp.drewN No wr nq)
        have HNX := Lib.hid (show nxtW l v (i + 1) = { nxtW l v i with ck := u.ck + 1 } by unfold nxtW; rw [HM2.out, HCK.out, HM.out])
        clear b0' b1' b2 g1 g2 c0 c2 hkw HB3 HB4
        generalize wr.drewN nq = w8 at d1 d3 d4 HBD HBE hkd ⊢
        go_wp2_with fail
        go_roundw
        case rel =>
          have hs := HBD.out.ck (u.ck + 1)
          have hk : Kp (Kq.One w.heap.size) w8 (w8.setCell ⟨w.heap.size, 2, none⟩ (.int .i64 (u.ck + 1))) := kp_setOne _ _ _ _
          exact ⟨i + 1, by omega, by go_num, by rw [HNX.out]; exact hs, HBE.out.kp hk fun e => by have e : w.heap.size + 1 = w.heap.size := e; omega, hkd.trans hk fun k hk e => by have e : k = w.heap.size := e; omega⟩
        case measure => simp [intOf]; omega
    · obtain rfl : i = n := by omega
      obtain ⟨_, _, b2, _⟩ := HB3.out.at_
      simp only [Nat.zero_add] at b2
      have hckb := ck_bd HR.out.ok i
      obtain ⟨c, hc⟩ : ∃ c, c = ckAt l i := ⟨_, rfl⟩
      have b2' : wr.cell? ⟨w.heap.size, 2, none⟩ = some (.int .i64 c) := by rw [hc]; exact b2
      rw [← hc] at hckb HN0
      have HC := Lib.hid hc
      clear b2 hc
      by_cases hbig : 1000000000 < c
      · have HN := Lib.hid (HN0.out.trans (if_pos hbig))
        have qb : decide ((1000000000 : Int) < c) = true := decide_eq_true hbig
        obtain ⟨p0, p1, p2, p3, p4, p5, p6, p7, p8, p9, p10⟩ := HB4.out.at_
        have fz := HB4.out.free
        have f0 := fz 0
        have f1 := fz 1
        have f2 := fz 2
        have f3 := fz 3
        have f4 := fz 4
        have f5 := fz 5
        have f6 := fz 6
        have f7 := fz 7
        have f8 := fz 8
        have f9 := fz 9
        have f10 := fz 10
        simp only [Nat.zero_add] at p1 p2 p3 p4 p5 p6 p7 p8 p9 p10
        clear fz
        clear hbig
        go_wp2_with fail
        obtain ⟨hb5, hkz⟩ := HB4.out.put (default : Wk)
        have HK6 := Lib.hid (show Kp No w (putW wr (w.heap.size + 1) (default : Wk)) from hkw.trans hkz fun k hk e => by have e : k = w.heap.size + 1 := e; omega)
        obtain ⟨r0, r1, r2, r3, r4, r5, r6, r7, r8, r9, r10⟩ := hb5.at_
        simp only [Nat.zero_add] at r1 r2 r3 r4 r5 r6 r7 r8 r9 r10
        clear p0 p1 p2 p3 p4 p5 p6 p7 p8 p9 p10 f0 f1 f2 f3 f4 f5 f6 f7 f8 f9 f10
        change bodyPost _ _ _ _ _ (putW wr (w.heap.size + 1) (default : Wk))
        generalize putW wr (w.heap.size + 1) (default : Wk) = W5 at *
        refine bodyPost_ret (v := .tuple #[(default : Wk).val, .int .i64 7]) (by simp [results, Try.results20, go_sem, r0, r1, r2, r3, r4, r5, r6, r7, r8, r9, r10]; try rfl) rfl ⟨by rw [← HRV.out, ← HRE.out, HN.out], HK6.out⟩
      have HN1 := Lib.hid (HN0.out.trans (if_neg hbig))
      have qb : decide ((1000000000 : Int) < c) = false := decide_eq_false hbig
      have hva := valid_any w.heap.size 0 (nxtW l v i) wr HB3.out.at_ hsz
      clear hbig HN0
      go_wp2_with fail
      with_reducible refine hva.mono ?_
      cases hok : okW (nxtW l v i) with
      | false =>
        have HN := Lib.hid (show nextV l v = (default, 2) by rw [HN1.out, hok]; rfl)
        rintro e w3 ⟨rfl, hkv⟩
        have hk3 := hkw.tr hkv
        replace HB4 := Lib.hid (HB4.out.kp hkv id)
        clear hva hok hkv b2'
        obtain ⟨p0, p1, p2, p3, p4, p5, p6, p7, p8, p9, p10⟩ := HB4.out.at_
        have fz := HB4.out.free
        have f0 := fz 0
        have f1 := fz 1
        have f2 := fz 2
        have f3 := fz 3
        have f4 := fz 4
        have f5 := fz 5
        have f6 := fz 6
        have f7 := fz 7
        have f8 := fz 8
        have f9 := fz 9
        have f10 := fz 10
        simp only [Nat.zero_add] at p1 p2 p3 p4 p5 p6 p7 p8 p9 p10
        clear fz
        go_wp2_with fail
        obtain ⟨hb5, hkz⟩ := HB4.out.put (default : Wk)
        have HK6 := Lib.hid (show Kp No w (putW w3 (w.heap.size + 1) (default : Wk)) from hk3.trans hkz fun k hk e => by have e : k = w.heap.size + 1 := e; omega)
        obtain ⟨r0, r1, r2, r3, r4, r5, r6, r7, r8, r9, r10⟩ := hb5.at_
        simp only [Nat.zero_add] at r1 r2 r3 r4 r5 r6 r7 r8 r9 r10
        clear p0 p1 p2 p3 p4 p5 p6 p7 p8 p9 p10 f0 f1 f2 f3 f4 f5 f6 f7 f8 f9 f10
        change bodyPost _ _ _ _ _ (putW w3 (w.heap.size + 1) (default : Wk))
        generalize putW w3 (w.heap.size + 1) (default : Wk) = W5 at *
        refine bodyPost_ret (v := .tuple #[(default : Wk).val, .int .i64 2]) (by simp [results, Try.results20, go_sem, r0, r1, r2, r3, r4, r5, r6, r7, r8, r9, r10]; try rfl) rfl ⟨by rw [← HRV.out, ← HRE.out, HN.out], HK6.out⟩
      | true =>
        have HN2 := Lib.hid (show nextV l v = if v.kd = 4 ∧ findN l v.onm = none then (default, 4) else (nxtW l v i, 0) by rw [HN1.out, hok]; rfl)
        rintro e w3 ⟨rfl, hkv⟩
        have hk3 := hkw.tr hkv
        replace HB4 := Lib.hid (HB4.out.kp hkv id)
        replace HB3 := Lib.hid (HB3.out.kp hkv id)
        clear hva hok hkv b2' hkw
        go_wp2_with fail
        with_reducible refine (index_any A i ca l w3 (HX.out.no hk3) (by omega)).mono ?_
        rintro e w4 ⟨B, rfl, hB, hm, hk34⟩
        have hk4 := hk3.tr hk34
        replace HB4 := Lib.hid (HB4.out.kp hk34 id)
        replace HB3 := Lib.hid (HB3.out.kp hk34 id)
        have HM := Lib.hid hm
        clear hk3 hk34 hm
        go_wp2_with fail
        with_reducible refine (onamed_any w.heap.size 0 (nxtW l v i) w4 HB3.out.at_).mono ?_
        rintro e w5 ⟨rfl, hk45⟩
        have hk5 := hk4.tr hk45
        replace HB4 := Lib.hid (HB4.out.kp hk45 id)
        replace HB3 := Lib.hid (HB3.out.kp hk45 id)
        have hm5 : MapAt w5 B en ei (ixL l i) := HM.out.of_block (hk45.block B HM.out.lt id)
        have hlk : (Instr.lookup 69 (.map (some B)) (nameV (nxtW l v i).ow (nxtW l v i).on) true).run Try.prog w5 = .ok (.tuple #[.int .i64 ((get1 (ixL l i) v.onm).getD 0), .bool (get1 (ixL l i) v.onm).isSome]) w5 := hm5.run_lookup nameOk Try.underlying69 (zeroInt3 _) v.onm true
        have hG := ixL_get l HR.out.names i (by rw [HL.out]; omega) v.onm
        rw [List.take_of_length_le (by rw [HL.out]; omega)] at hG
        rw [hG] at hlk
        obtain ⟨y0, y1, y2, y3, y4, y5, y6, y7, y8, y9, y10⟩ := HB3.out.at_
        simp only [Nat.zero_add] at y1 y2 y3 y4 y5 y6 y7 y8 y9 y10
        have y3' : w5.cell? ⟨w.heap.size, 3, none⟩ = some (.int .i64 v.kd) := y3
        clear hk4 hk45 hm5 hG HM y3
        by_cases h4 : v.kd = 4
        · have q4 : (v.kd == 4) = true := by rw [beq_iff_eq]; exact h4
          cases hf : findN l v.onm with
          | none =>
            rw [hf] at hlk
            simp only [Option.map_none, Option.getD_none, Option.isSome_none] at hlk
            have HN := Lib.hid (HN2.out.trans (if_pos ⟨h4, hf⟩))
            clear hf h4 y0 y1 y2 y4 y5 y6 y7 y8 y9 y10
            obtain ⟨p0, p1, p2, p3, p4, p5, p6, p7, p8, p9, p10⟩ := HB4.out.at_
            have fz := HB4.out.free
            have f0 := fz 0
            have f1 := fz 1
            have f2 := fz 2
            have f3 := fz 3
            have f4 := fz 4
            have f5 := fz 5
            have f6 := fz 6
            have f7 := fz 7
            have f8 := fz 8
            have f9 := fz 9
            have f10 := fz 10
            simp only [Nat.zero_add] at p1 p2 p3 p4 p5 p6 p7 p8 p9 p10
            clear fz
            go_wp2_with fail
            obtain ⟨hb5, hkz⟩ := HB4.out.put (default : Wk)
            have HK6 := Lib.hid (show Kp No w (putW w5 (w.heap.size + 1) (default : Wk)) from hk5.trans hkz fun k hk e => by have e : k = w.heap.size + 1 := e; omega)
            obtain ⟨r0, r1, r2, r3, r4, r5, r6, r7, r8, r9, r10⟩ := hb5.at_
            simp only [Nat.zero_add] at r1 r2 r3 r4 r5 r6 r7 r8 r9 r10
            clear p0 p1 p2 p3 p4 p5 p6 p7 p8 p9 p10 f0 f1 f2 f3 f4 f5 f6 f7 f8 f9 f10
            change bodyPost _ _ _ _ _ (putW w5 (w.heap.size + 1) (default : Wk))
            generalize putW w5 (w.heap.size + 1) (default : Wk) = W5 at *
            refine bodyPost_ret (v := .tuple #[(default : Wk).val, .int .i64 4]) (by simp [results, Try.results20, go_sem, r0, r1, r2, r3, r4, r5, r6, r7, r8, r9, r10]; try rfl) rfl ⟨by rw [← HRV.out, ← HRE.out, HN.out], HK6.out⟩
          | some k =>
            rw [hf] at hlk
            simp only [Option.map_some, Option.getD_some, Option.isSome_some] at hlk
            have HN := Lib.hid (HN2.out.trans (if_neg (by rw [hf]; simp)))
            clear hf h4
            obtain ⟨p0, p1, p2, p3, p4, p5, p6, p7, p8, p9, p10⟩ := HB4.out.at_
            have fz := HB4.out.free
            have f0 := fz 0
            have f1 := fz 1
            have f2 := fz 2
            have f3 := fz 3
            have f4 := fz 4
            have f5 := fz 5
            have f6 := fz 6
            have f7 := fz 7
            have f8 := fz 8
            have f9 := fz 9
            have f10 := fz 10
            simp only [Nat.zero_add] at p1 p2 p3 p4 p5 p6 p7 p8 p9 p10
            clear fz
            go_wp2_with fail
            obtain ⟨hb5, hkz⟩ := HB4.out.put (nxtW l v i)
            have HK6 := Lib.hid (show Kp No w (putW w5 (w.heap.size + 1) (nxtW l v i)) from hk5.trans hkz fun k hk e => by have e : k = w.heap.size + 1 := e; omega)
            obtain ⟨r0, r1, r2, r3, r4, r5, r6, r7, r8, r9, r10⟩ := hb5.at_
            simp only [Nat.zero_add] at r1 r2 r3 r4 r5 r6 r7 r8 r9 r10
            clear p0 p1 p2 p3 p4 p5 p6 p7 p8 p9 p10 f0 f1 f2 f3 f4 f5 f6 f7 f8 f9 f10
            change bodyPost _ _ _ _ _ (putW w5 (w.heap.size + 1) (nxtW l v i))
            generalize putW w5 (w.heap.size + 1) (nxtW l v i) = W5 at *
            refine bodyPost_ret (v := .tuple #[(nxtW l v i).val, .int .i64 0]) (by simp [results, Try.results20, go_sem, r0, r1, r2, r3, r4, r5, r6, r7, r8, r9, r10]; try rfl) rfl ⟨by rw [← HRV.out, ← HRE.out, HN.out], HK6.out⟩
        · have q4 : (v.kd == 4) = false := by rw [beq_eq_false_iff_ne]; exact h4
          have HN := Lib.hid (HN2.out.trans (if_neg (fun h => h4 h.1)))
          clear h4
          obtain ⟨p0, p1, p2, p3, p4, p5, p6, p7, p8, p9, p10⟩ := HB4.out.at_
          have fz := HB4.out.free
          have f0 := fz 0
          have f1 := fz 1
          have f2 := fz 2
          have f3 := fz 3
          have f4 := fz 4
          have f5 := fz 5
          have f6 := fz 6
          have f7 := fz 7
          have f8 := fz 8
          have f9 := fz 9
          have f10 := fz 10
          simp only [Nat.zero_add] at p1 p2 p3 p4 p5 p6 p7 p8 p9 p10
          clear fz
          go_wp2_with fail
          obtain ⟨hb5, hkz⟩ := HB4.out.put (nxtW l v i)
          have HK6 := Lib.hid (show Kp No w (putW w5 (w.heap.size + 1) (nxtW l v i)) from hk5.trans hkz fun k hk e => by have e : k = w.heap.size + 1 := e; omega)
          obtain ⟨r0, r1, r2, r3, r4, r5, r6, r7, r8, r9, r10⟩ := hb5.at_
          simp only [Nat.zero_add] at r1 r2 r3 r4 r5 r6 r7 r8 r9 r10
          clear p0 p1 p2 p3 p4 p5 p6 p7 p8 p9 p10 f0 f1 f2 f3 f4 f5 f6 f7 f8 f9 f10
          change bodyPost _ _ _ _ _ (putW w5 (w.heap.size + 1) (nxtW l v i))
          generalize putW w5 (w.heap.size + 1) (nxtW l v i) = W5 at *
          refine bodyPost_ret (v := .tuple #[(nxtW l v i).val, .int .i64 0]) (by simp [results, Try.results20, go_sem, r0, r1, r2, r3, r4, r5, r6, r7, r8, r9, r10]; try rfl) rfl ⟨by rw [← HRV.out, ← HRE.out, HN.out], HK6.out⟩
end Go.Proofs.Ytjbpdimepckmfaa
