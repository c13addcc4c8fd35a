/- Chapter 15: law StarvingAsks. Printed by gen_las.py SEAT NUMBER-OF-THE-LAW. -/
import Derived.Test.YtpkbpeeelpgmcaaGreatXLasPM
import Derived.Test.YtpkbpeeelpgmcaaGreatXShnM
namespace Go.Proofs.YtpkbpeeelpgmcaaGreat
open Go.RowKit Go.Kq Go.Flow

set_option maxHeartbeats 8000000 in
set_option maxRecDepth 100000 in
theorem asks_law (Z : Nz) (l : List Sto) (vs : List Sv) (A B C P Q T : Option Addr) (ca cb n cc p cp q cq t ct : Nat) (S K M : List Int) (w : World) (hR : RdNz w A B Z) (hS : RdSt w C n vs l) (hP : RdI .i64 w P p S) (hQ : RdI .i64 w Q q K) (hT : RdI .i64 w T t M) (hpb : p ≤ maxLen) (hqb : q ≤ maxLen) (htb : t ≤ maxLen) :
    Calls Tryz.prog 3 #[windV Z A B C ca cb n cc, comboV P p cp Q q cq, .slice T t ct] w fun e w' => e = .returned (.bool true) ∧ Kp No w w' := by
  obtain ⟨g, hg⟩ : ∃ g, g = w.heap.size := ⟨_, rfl⟩
  obtain ⟨w0, hw0⟩ : ∃ w0, (w.alloc (.cells #[.int .i64 Z.n, .slice A Z.tr.length ca, .slice B Z.ch.length cb, .slice C n cc] 28)).alloc (.cells #[.slice P p cp, .slice Q q cq] 30) = w0 := ⟨_, rfl⟩
  have hk0 : Kp No w w0 := by rw [← hw0]; exact (Kp.alloc _ _ _).tr (Kp.alloc _ _ _)
  have HBX := Lib.hid (show w0.heap[g]? = some (.cells #[.int .i64 Z.n, .slice A Z.tr.length ca, .slice B Z.ch.length cb, .slice C n cc] 28 (0, 0)) by rw [← hw0, hg]; exact (Kp.alloc No _ _).heap (heap_alloc_new w _) id)
  have HBC := Lib.hid (show w0.heap[g + 1]? = some (.cells #[.slice P p cp, .slice Q q cq] 30 (0, 0)) by
    rw [← hw0, hg]
    have := heap_alloc_new (w.alloc (.cells #[.int .i64 Z.n, .slice A Z.tr.length ca, .slice B Z.ch.length cb, .slice C n cc] 28)) (.cells #[.slice P p cp, .slice Q q cq] 30)
    simpa using this)
  have HK := Lib.hid hk0
  have HQN := Lib.hid (show Qn Z l vs A B C n w0 from ⟨hR.no hk0, hS.no hk0⟩)
  have HP := Lib.hid (hP.no hk0)
  have HQ := Lib.hid (hQ.no hk0)
  have HTT := Lib.hid (hT.no hk0)
  unfold maxLen at hpb hqb htb
  have hpb' : p ≤ 9223372036854775807 := by omega
  have hqb' : q ≤ 9223372036854775807 := by omega
  have htb' : t ≤ 9223372036854775807 := by omega
  obtain ⟨cz, hcz⟩ := chkW_total Z l
  obtain ⟨c1, hc1⟩ := ask_total Z l S K
  obtain ⟨c2, hc2⟩ := ask_total Z l M []
  have FA := far_z Z l vs A B C ca cb n cc w0 HQN.out.s
  have CK := fun W (k : Kp No w0 W) => Wcheck_any Z l vs A B C ca cb n cc W (HQN.out.no k).r (HQN.out.no k).s
  have RC := fun W (k : Kp No w0 W) => rWcheck_any Z l vs A B C ca cb n cc W (HQN.out.no k).r (HQN.out.no k).s
  have D1 := fun W (k : Kp No w0 W) => demand_un (ca := ca) (cb := cb) (cc := cc) (cp := cp) (cq := cq) (HQN.out.no k) (HP.out.no k) (HQ.out.no k) hpb' hqb' hc1
  have D2 := fun W (k : Kp No w0 W) => rdemand_un (ca := ca) (cb := cb) (cc := cc) (cp := cp) (cq := cq) (HQN.out.no k) (HP.out.no k) (HQ.out.no k) hpb' hqb' hc1
  have S1 := fun W (k : Kp No w0 W) => starves_un (ca := ca) (cb := cb) (cc := cc) (cp := cp) (cq := cq) (HQN.out.no k) (HP.out.no k) (HQ.out.no k) hpb' hqb' hc1
  have F1 := fun W (k : Kp No w0 W) => safe_un (ca := ca) (cb := cb) (cc := cc) (cp := ct) (HQN.out.no k) (HTT.out.no k) htb' hc2
  obtain ⟨fb, hfb⟩ : ∃ fb, fb = farB Z.n Z.tr.length Z.ch.length n l := ⟨_, rfl⟩
  have hno2 := fun h : fb = false => farB_no (hfb.symm.trans h)
  have H7 := fun (h : fb = false) (c : Int) (hh : c = 0 → ChkW Z l 0) (hc : c = 0) => (show Z.n ≤ 7 ∧ Z.tr.length ≤ 20 by
    obtain ⟨N, hN, e, _⟩ := chk_net (hh hc)
    have h2 := hno2 h
    have a1 := hN.n2
    have a2 := hN.t1
    have e1 : Z.n = (N.n : Int) := by rw [e]; rfl
    have e2 : Z.tr.length = N.tr.length := by rw [e, nz_tr]
    omega)
  have S2 := fun (h : fb = false) b ps (hx : StX Z l S K c1 b ps) W (k : Kp No w0 W) => rstarves_un (ca := ca) (cb := cb) (cc := cc) (cp := cp) (cq := cq) (HQN.out.no k) (HP.out.no k) (HQ.out.no k) hpb' hqb' hc1 (H7 h c1 fun e => (ask_zero (e ▸ hc1)).1) hx
  have F2 := fun (h : fb = false) v (hx : SfX Z l M c2 v) W (k : Kp No w0 W) => rsafe_un (ca := ca) (cb := cb) (cc := cc) (cp := ct) (HQN.out.no k) (HTT.out.no k) htb' hc2 (H7 h c2 fun e => (ask_zero (e ▸ hc2)).1) hx
  unfold windV at FA CK RC D1 D2 S1 S2 F1 F2 ⊢
  unfold comboV at D1 D2 S1 S2 ⊢
  unfold FarZ at FA
  have HFB := Lib.hid hfb
  have HCZ := Lib.hid hcz
  have HX1 := Lib.hid (show ∃ ds, ds = dmC Z l S K c1 from ⟨_, rfl⟩)
  replace FA := Lib.hid FA
  replace CK := Lib.hid CK
  replace RC := Lib.hid RC
  replace D1 := Lib.hid D1
  replace D2 := Lib.hid D2
  replace S1 := Lib.hid S1
  replace S2 := Lib.hid S2
  replace F1 := Lib.hid F1
  replace F2 := Lib.hid F2
  clear hk0 hR hS hP hQ hT hcz hc1 hc2 hfb hno2 H7 hpb' hqb' htb'
  obtain ⟨p0, p1, p2, p3⟩ := four_at HBX.out
  obtain ⟨q0, q1, _, _⟩ := cell_head HBC.out
  subst hg
  go_enter Tryz.func3, Tryz.ntmps3
  go_wp2_with fail
  with_reducible refine FA.out.mono ?_
  rintro e w1 ⟨b, rfl, hb, k1⟩
  rw [← HFB.out] at hb
  subst hb
  have K1 := Lib.hid k1
  have B1 := Lib.hid (k1.heap HBX.out id)
  have C1 := Lib.hid (k1.heap HBC.out id)
  clear p0 p1 p2 p3 q0 q1 k1
  obtain ⟨p0, p1, p2, p3⟩ := four_at B1.out
  obtain ⟨q0, q1, _, _⟩ := cell_head C1.out
  cases b with
  | true =>
    go_wp2_with fail
    with_reducible refine (shown_any _).mono ?_
    rintro e w2 ⟨rfl, k2⟩
    go_wp2_with fail
    go_ret
    exact ⟨rfl, HK.out.tr (K1.out.tr k2)⟩
  | false =>
    have S3 := Lib.hid (S2.out rfl)
    have F3 := Lib.hid (F2.out rfl)
    clear S2 F2
    obtain ⟨eM, heM⟩ : ∃ eM, wrap64 ((p : Int) + (q : Int)) = eM := ⟨_, rfl⟩
    obtain ⟨eN, heN⟩ : ∃ eN, wrap64 (eM + (t : Int)) = eN := ⟨_, rfl⟩
    by_cases h100 : 100 < eN
    · have d0 : decide (100 < eN) = true := decide_eq_true h100
      clear h100
      go_wp2_with fail
      with_reducible refine (shown_any _).mono ?_
      rintro e w2 ⟨rfl, k2⟩
      go_wp2_with fail
      go_ret
      exact ⟨rfl, HK.out.tr (K1.out.tr k2)⟩
    have d0 : decide (100 < eN) = false := decide_eq_false h100
    clear h100
    have X2 := Lib.hid (D1.out _ K1.out)
    go_wp2_with fail
    clear heM heN d0 hpb hqb htb
    with_reducible refine X2.out.mono ?_
    rintro e w2 ⟨⟨u, rfl, A1, n1, cp1, rfl, hr1, hn1⟩, k2⟩
    have KX2 := Lib.hid (K1.out.tr k2)
    have BX2 := Lib.hid (k2.heap B1.out id)
    have CX2 := Lib.hid (k2.heap C1.out id)
    clear p0 p1 p2 p3 q0 q1
    obtain ⟨p0, p1, p2, p3⟩ := four_at BX2.out
    obtain ⟨q0, q1, _, _⟩ := cell_head CX2.out
    have HR1 := Lib.hid hr1
    have X3 := Lib.hid (D2.out _ KX2.out)
    clear hr1
    go_wp2_with fail
    with_reducible refine X3.out.mono ?_
    rintro e w3 ⟨⟨u, rfl, A2, n2, cp2, rfl, hr2, hn2⟩, k3⟩
    have KX3 := Lib.hid (KX2.out.tr k3)
    have BX3 := Lib.hid (k3.heap BX2.out id)
    have CX3 := Lib.hid (k3.heap CX2.out id)
    clear p0 p1 p2 p3 q0 q1
    obtain ⟨p0, p1, p2, p3⟩ := four_at BX3.out
    obtain ⟨q0, q1, _, _⟩ := cell_head CX3.out
    have HR1b := Lib.hid (HR1.out.no k3)
    have HR2 := Lib.hid hr2
    have hn12 : n1 = n2 := by rw [← HR1.out.1, ← HR2.out.1]
    have X4 := Lib.hid (S1.out _ KX3.out)
    clear hr2 k3
    subst hn12
    go_wp2_with fail
    with_reducible refine X4.out.mono ?_
    rintro e w4 ⟨⟨bS, ps, hx, u, rfl, A3, n3, cp3, rfl, hr3, hn3⟩, k4⟩
    have KX4 := Lib.hid (KX3.out.tr k4)
    have BX4 := Lib.hid (k4.heap BX3.out id)
    have CX4 := Lib.hid (k4.heap CX3.out id)
    clear p0 p1 p2 p3 q0 q1
    obtain ⟨p0, p1, p2, p3⟩ := four_at BX4.out
    obtain ⟨q0, q1, _, _⟩ := cell_head CX4.out
    have HR1c := Lib.hid (HR1b.out.no k4)
    have HR2c := Lib.hid (HR2.out.no k4)
    have HR3 := Lib.hid hr3
    have X5 := Lib.hid (S3.out bS ps hx _ KX4.out)
    clear hr3 k4 hx
    go_wp2_with fail
    with_reducible refine X5.out.mono ?_
    rintro e w5 ⟨⟨u, rfl, A4, n4, cp4, rfl, hr4, hn4⟩, k5⟩
    have KX5 := Lib.hid (KX4.out.tr k5)
    have BX5 := Lib.hid (k5.heap BX4.out id)
    have CX5 := Lib.hid (k5.heap CX4.out id)
    clear p0 p1 p2 p3 q0 q1
    obtain ⟨p0, p1, p2, p3⟩ := four_at BX5.out
    obtain ⟨q0, q1, _, _⟩ := cell_head CX5.out
    have HR1d := Lib.hid (HR1c.out.no k5)
    have HR2d := Lib.hid (HR2c.out.no k5)
    have HR3d := Lib.hid (HR3.out.no k5)
    have HR4 := Lib.hid hr4
    have X6 := Lib.hid (F1.out _ KX5.out)
    clear hr4 k5
    go_wp2_with fail
    with_reducible refine X6.out.mono ?_
    rintro e w6 ⟨⟨sv, hx, rfl⟩, k6⟩
    have KX6 := Lib.hid (KX5.out.tr k6)
    have BX6 := Lib.hid (k6.heap BX5.out id)
    have CX6 := Lib.hid (k6.heap CX5.out id)
    clear p0 p1 p2 p3 q0 q1
    obtain ⟨p0, p1, p2, p3⟩ := four_at BX6.out
    obtain ⟨q0, q1, _, _⟩ := cell_head CX6.out
    have HR1e := Lib.hid (HR1d.out.no k6)
    have HR2e := Lib.hid (HR2d.out.no k6)
    have HR3e := Lib.hid (HR3d.out.no k6)
    have HR4e := Lib.hid (HR4.out.no k6)
    have X7 := Lib.hid (F3.out sv hx _ KX6.out)
    clear k6 hx
    go_wp2_with fail
    with_reducible refine X7.out.mono ?_
    rintro e w7 ⟨rfl, k7⟩
    have KX7 := Lib.hid (KX6.out.tr k7)
    have BX7 := Lib.hid (k7.heap BX6.out id)
    have CX7 := Lib.hid (k7.heap CX6.out id)
    clear p0 p1 p2 p3 q0 q1
    obtain ⟨p0, p1, p2, p3⟩ := four_at BX7.out
    obtain ⟨q0, q1, _, _⟩ := cell_head CX7.out
    have HR1f := Lib.hid (HR1e.out.no k7)
    have HR2f := Lib.hid (HR2e.out.no k7)
    have HR3f := Lib.hid (HR3e.out.no k7)
    have HR4f := Lib.hid (HR4e.out.no k7)
    have hn34 : n3 = n4 := by rw [← HR3f.out.1, ← HR4f.out.1]
    subst hn34
    clear k7 q0 q1
    have z1 : (cz != cz) = false := by simp
    have z2 : (c1 != c1) = false := by simp
    have z3 : (c2 != c2) = false := by simp
    have z4 : (sv != sv) = false := by simp
    have z5 : ((n1 : Int) != (n1 : Int)) = false := by simp
    have z6 : (bS != bS) = false := by simp
    go_wp2_with fail
    have FS : Stab (fun ix wz u => True) := fun ix u wz wz' kz h => trivial
    replace FS := Lib.hid FS
    refine wp_region_each (fun ix uR => match ix with | 0 => uR = .agg #[.int .i64 Z.n, .slice A Z.tr.length ca, .slice B Z.ch.length cb, .slice C n cc] | 1 => uR = .int .i64 cz | 2 => uR = .agg #[.int .i64 Z.n, .slice A Z.tr.length ca, .slice B Z.ch.length cb, .slice C n cc] | 3 => uR = .int .i64 cz | 4 => uR = .bool false | 5 => uR = .bool false | 6 => uR = .slice A1 n1 cp1 | 7 => uR = .int .i64 (n1 : Nat) | 8 => uR = .slice A2 n1 cp2 | 9 => uR = .int .i64 (n1 : Nat) | 10 => uR = .bool false | 11 => uR = .bool false | 12 => uR = .bool false | 13 => uR = .int .i64 c1 | 14 => uR = .int .i64 c1 | 15 => uR = .bool false | 16 => uR = .bool false | 17 => uR = .bool false | 18 => uR = .bool bS | 19 => uR = .bool bS | 20 => uR = .bool false | 21 => uR = .bool false | 22 => uR = .bool false | 23 => uR = .slice A3 n3 cp3 | 24 => uR = .slice A4 n3 cp4 | 25 => uR = .bool true | 26 => uR = .bool false | 27 => uR = .bool false | 28 => uR = .bool false | 29 => uR = .int .i64 c1 | 30 => uR = .int .i64 c1 | 31 => uR = .bool false | 32 => uR = .bool false | 33 => uR = .bool false | 34 => uR = .int .i64 sv | 35 => uR = .int .i64 sv | 36 => uR = .bool false | 37 => uR = .bool false | 38 => uR = .bool false | 39 => uR = .int .i64 c2 | 40 => uR = .int .i64 c2 | 41 => uR = .bool false | 42 => uR = .bool false | _ => True) (HvW w7 (fun ix wz u => True)) (by kernel_rfl) (by kernel_rfl) (by kernel_rfl) ?_ ?_ ?_
    · exact HvW.start _ _
    · refine ⟨?_, ?_, ?_, ?_, ?_, ?_, ?_, ?_, ?_, ?_, ?_, ?_, ?_, ?_, ?_, ?_, ?_, ?_, ?_, ?_, ?_, ?_, ?_, ?_, ?_, ?_, ?_, ?_, ?_, ?_, ?_, ?_, ?_, ?_, ?_, ?_, ?_, ?_, ?_, ?_, ?_, ?_, ?_, trivial⟩
      · intro r a w' hf hg hW hr hd K hK
        refine wpOp_of rfl rfl ?_
        have e0 : a.tmps.getD 3 undef = .pointer (some ⟨w.heap.size, 0, none⟩) := hf.evalFree (by kernel_rfl)
        have z0 := hW.kp.cell p0 id
        have z1 := hW.kp.cell p1 id
        have z2 := hW.kp.cell p2 id
        have z3 := hW.kp.cell p3 id
        go_simp
        exact hK _ _ rfl (hW.upd 0 _ trivial)
      · intro r a w' hf hg hW hr hd K hK
        refine wpOp_of rfl rfl ?_
        refine hf.depE hg hd 0 76 (by kernel_rfl) fun u0 e0 g0 h0 => ?_
        replace g0 : u0 = .agg #[.int .i64 Z.n, .slice A Z.tr.length ca, .slice B Z.ch.length cb, .slice C n cc] := g0
        subst g0
        have RX := CK.out _ (KX7.out.tr hW.kp)
        go_simp
        with_reducible refine RX.mono ?_
        rintro e w'' ⟨c3, rfl, hc3, k⟩
        obtain rfl := hc3.uniq HCZ.out
        exact hK _ _ rfl ((hW.call FS.out k).upd 1 _ trivial)
      · intro r a w' hf hg hW hr hd K hK
        refine wpOp_of rfl rfl ?_
        have e0 : a.tmps.getD 3 undef = .pointer (some ⟨w.heap.size, 0, none⟩) := hf.evalFree (by kernel_rfl)
        have z0 := hW.kp.cell p0 id
        have z1 := hW.kp.cell p1 id
        have z2 := hW.kp.cell p2 id
        have z3 := hW.kp.cell p3 id
        go_simp
        exact hK _ _ rfl (hW.upd 2 _ trivial)
      · intro r a w' hf hg hW hr hd K hK
        refine wpOp_of rfl rfl ?_
        refine hf.depE hg hd 2 78 (by kernel_rfl) fun u0 e0 g0 h0 => ?_
        replace g0 : u0 = .agg #[.int .i64 Z.n, .slice A Z.tr.length ca, .slice B Z.ch.length cb, .slice C n cc] := g0
        subst g0
        have RX := RC.out _ (KX7.out.tr hW.kp)
        go_simp
        with_reducible refine RX.mono ?_
        rintro e w'' ⟨c3, rfl, hc3, k⟩
        obtain rfl := hc3.uniq HCZ.out
        exact hK _ _ rfl ((hW.call FS.out k).upd 3 _ trivial)
      · intro r a w' hf hg hW hr hd K hK
        refine wpOp_of rfl rfl ?_
        refine hf.depE hg hd 1 77 (by kernel_rfl) fun u0 e0 g0 h0 => ?_
        replace g0 : u0 = .int .i64 cz := g0
        subst g0
        refine hf.depE hg hd 3 79 (by kernel_rfl) fun u1 e1 g1 h1 => ?_
        replace g1 : u1 = .int .i64 cz := g1
        subst g1
        go_simp
        exact hK _ _ rfl (hW.upd 4 _ trivial)
      · intro r a w' hf hg hW hr hd K hK
        refine wpOp_of rfl rfl ?_
        refine hf.depE hg hd 4 80 (by kernel_rfl) fun u0 e0 g0 h0 => ?_
        replace g0 : u0 = .bool false := g0
        subst g0
        go_simp
        exact hK _ _ rfl (hW.upd 5 _ trivial)
      · intro r a w' hf hg hW hr hd K hK
        refine hf.depE hg hd 5 81 (by kernel_rfl) fun uG eG gG _ => ?_
        replace gG : uG = .bool false := gG
        subst gG
        refine wpOp_run rfl rfl rfl rfl eG ?_
        have e0 : a.tmps.getD 7 undef = .slice A1 n1 cp1 := hf.evalFree (by kernel_rfl)
        go_simp
        exact hK _ _ rfl (hW.upd 6 _ trivial)
      · intro r a w' hf hg hW hr hd K hK
        refine hf.depE hg hd 5 81 (by kernel_rfl) fun uG eG gG _ => ?_
        replace gG : uG = .bool false := gG
        subst gG
        refine wpOp_run rfl rfl rfl rfl eG ?_
        refine hf.depE hg hd 6 82 (by kernel_rfl) fun u0 e0 g0 h0 => ?_
        replace g0 : u0 = .slice A1 n1 cp1 := g0
        subst g0
        go_simp
        exact hK _ _ rfl (hW.upd 7 _ trivial)
      · intro r a w' hf hg hW hr hd K hK
        refine hf.depE hg hd 5 81 (by kernel_rfl) fun uG eG gG _ => ?_
        replace gG : uG = .bool false := gG
        subst gG
        refine wpOp_run rfl rfl rfl rfl eG ?_
        have e0 : a.tmps.getD 9 undef = .slice A2 n1 cp2 := hf.evalFree (by kernel_rfl)
        go_simp
        exact hK _ _ rfl (hW.upd 8 _ trivial)
      · intro r a w' hf hg hW hr hd K hK
        refine hf.depE hg hd 5 81 (by kernel_rfl) fun uG eG gG _ => ?_
        replace gG : uG = .bool false := gG
        subst gG
        refine wpOp_run rfl rfl rfl rfl eG ?_
        refine hf.depE hg hd 8 84 (by kernel_rfl) fun u0 e0 g0 h0 => ?_
        replace g0 : u0 = .slice A2 n1 cp2 := g0
        subst g0
        go_simp
        exact hK _ _ rfl (hW.upd 9 _ trivial)
      · intro r a w' hf hg hW hr hd K hK
        refine hf.depE hg hd 5 81 (by kernel_rfl) fun uG eG gG _ => ?_
        replace gG : uG = .bool false := gG
        subst gG
        refine wpOp_run rfl rfl rfl rfl eG ?_
        refine hf.depE hg hd 7 83 (by kernel_rfl) fun u0 e0 g0 h0 => ?_
        replace g0 : u0 = .int .i64 (n1 : Nat) := g0
        subst g0
        refine hf.depE hg hd 9 85 (by kernel_rfl) fun u1 e1 g1 h1 => ?_
        replace g1 : u1 = .int .i64 (n1 : Nat) := g1
        subst g1
        go_simp
        exact hK _ _ rfl (hW.upd 10 _ trivial)
      · intro r a w' hf hg hW hr hd K hK
        refine wpOp_of rfl rfl ?_
        refine hf.depE hg hd 5 81 (by kernel_rfl) fun u0 e0 g0 h0 => ?_
        replace g0 : u0 = .bool false := g0
        subst g0
        have e0' := get_of_getD e0
        refine hf.depE hg hd 10 86 (by kernel_rfl) fun u1 e1 g1 h1 => ?_
        replace g1 : u1 = .bool false := g1
        subst g1
        have e1' := get_of_getD e1
        go_simp
        exact hK _ _ rfl (hW.upd 11 _ trivial)
      · intro r a w' hf hg hW hr hd K hK
        refine wpOp_of rfl rfl ?_
        refine hf.depE hg hd 11 87 (by kernel_rfl) fun u0 e0 g0 h0 => ?_
        replace g0 : u0 = .bool false := g0
        subst g0
        go_simp
        exact hK _ _ rfl (hW.upd 12 _ trivial)
      · intro r a w' hf hg hW hr hd K hK
        refine hf.depE hg hd 12 88 (by kernel_rfl) fun uG eG gG _ => ?_
        replace gG : uG = .bool false := gG
        subst gG
        refine wpOp_run rfl rfl rfl rfl eG ?_
        have e0 : a.tmps.getD 8 undef = .int .i64 c1 := hf.evalFree (by kernel_rfl)
        go_simp
        exact hK _ _ rfl (hW.upd 13 _ trivial)
      · intro r a w' hf hg hW hr hd K hK
        refine hf.depE hg hd 12 88 (by kernel_rfl) fun uG eG gG _ => ?_
        replace gG : uG = .bool false := gG
        subst gG
        refine wpOp_run rfl rfl rfl rfl eG ?_
        have e0 : a.tmps.getD 10 undef = .int .i64 c1 := hf.evalFree (by kernel_rfl)
        go_simp
        exact hK _ _ rfl (hW.upd 14 _ trivial)
      · intro r a w' hf hg hW hr hd K hK
        refine hf.depE hg hd 12 88 (by kernel_rfl) fun uG eG gG _ => ?_
        replace gG : uG = .bool false := gG
        subst gG
        refine wpOp_run rfl rfl rfl rfl eG ?_
        refine hf.depE hg hd 13 89 (by kernel_rfl) fun u0 e0 g0 h0 => ?_
        replace g0 : u0 = .int .i64 c1 := g0
        subst g0
        refine hf.depE hg hd 14 90 (by kernel_rfl) fun u1 e1 g1 h1 => ?_
        replace g1 : u1 = .int .i64 c1 := g1
        subst g1
        go_simp
        exact hK _ _ rfl (hW.upd 15 _ trivial)
      · intro r a w' hf hg hW hr hd K hK
        refine wpOp_of rfl rfl ?_
        refine hf.depE hg hd 12 88 (by kernel_rfl) fun u0 e0 g0 h0 => ?_
        replace g0 : u0 = .bool false := g0
        subst g0
        have e0' := get_of_getD e0
        refine hf.depE hg hd 15 91 (by kernel_rfl) fun u1 e1 g1 h1 => ?_
        replace g1 : u1 = .bool false := g1
        subst g1
        have e1' := get_of_getD e1
        go_simp
        exact hK _ _ rfl (hW.upd 16 _ trivial)
      · intro r a w' hf hg hW hr hd K hK
        refine wpOp_of rfl rfl ?_
        refine hf.depE hg hd 16 92 (by kernel_rfl) fun u0 e0 g0 h0 => ?_
        replace g0 : u0 = .bool false := g0
        subst g0
        go_simp
        exact hK _ _ rfl (hW.upd 17 _ trivial)
      · intro r a w' hf hg hW hr hd K hK
        refine hf.depE hg hd 17 93 (by kernel_rfl) fun uG eG gG _ => ?_
        replace gG : uG = .bool false := gG
        subst gG
        refine wpOp_run rfl rfl rfl rfl eG ?_
        have e0 : a.tmps.getD 11 undef = .bool bS := hf.evalFree (by kernel_rfl)
        go_simp
        exact hK _ _ rfl (hW.upd 18 _ trivial)
      · intro r a w' hf hg hW hr hd K hK
        refine hf.depE hg hd 17 93 (by kernel_rfl) fun uG eG gG _ => ?_
        replace gG : uG = .bool false := gG
        subst gG
        refine wpOp_run rfl rfl rfl rfl eG ?_
        have e0 : a.tmps.getD 14 undef = .bool bS := hf.evalFree (by kernel_rfl)
        go_simp
        exact hK _ _ rfl (hW.upd 19 _ trivial)
      · intro r a w' hf hg hW hr hd K hK
        refine hf.depE hg hd 17 93 (by kernel_rfl) fun uG eG gG _ => ?_
        replace gG : uG = .bool false := gG
        subst gG
        refine wpOp_run rfl rfl rfl rfl eG ?_
        refine hf.depE hg hd 18 94 (by kernel_rfl) fun u0 e0 g0 h0 => ?_
        replace g0 : u0 = .bool bS := g0
        subst g0
        refine hf.depE hg hd 19 95 (by kernel_rfl) fun u1 e1 g1 h1 => ?_
        replace g1 : u1 = .bool bS := g1
        subst g1
        go_simp
        exact hK _ _ rfl (hW.upd 20 _ trivial)
      · intro r a w' hf hg hW hr hd K hK
        refine wpOp_of rfl rfl ?_
        refine hf.depE hg hd 17 93 (by kernel_rfl) fun u0 e0 g0 h0 => ?_
        replace g0 : u0 = .bool false := g0
        subst g0
        have e0' := get_of_getD e0
        refine hf.depE hg hd 20 96 (by kernel_rfl) fun u1 e1 g1 h1 => ?_
        replace g1 : u1 = .bool false := g1
        subst g1
        have e1' := get_of_getD e1
        go_simp
        exact hK _ _ rfl (hW.upd 21 _ trivial)
      · intro r a w' hf hg hW hr hd K hK
        refine wpOp_of rfl rfl ?_
        refine hf.depE hg hd 21 97 (by kernel_rfl) fun u0 e0 g0 h0 => ?_
        replace g0 : u0 = .bool false := g0
        subst g0
        go_simp
        exact hK _ _ rfl (hW.upd 22 _ trivial)
      · intro r a w' hf hg hW hr hd K hK
        refine hf.depE hg hd 22 98 (by kernel_rfl) fun uG eG gG _ => ?_
        replace gG : uG = .bool false := gG
        subst gG
        refine wpOp_run rfl rfl rfl rfl eG ?_
        have e0 : a.tmps.getD 12 undef = .slice A3 n3 cp3 := hf.evalFree (by kernel_rfl)
        go_simp
        exact hK _ _ rfl (hW.upd 23 _ trivial)
      · intro r a w' hf hg hW hr hd K hK
        refine hf.depE hg hd 22 98 (by kernel_rfl) fun uG eG gG _ => ?_
        replace gG : uG = .bool false := gG
        subst gG
        refine wpOp_run rfl rfl rfl rfl eG ?_
        have e0 : a.tmps.getD 15 undef = .slice A4 n3 cp4 := hf.evalFree (by kernel_rfl)
        go_simp
        exact hK _ _ rfl (hW.upd 24 _ trivial)
      · intro r a w' hf hg hW hr hd K hK
        refine hf.depE hg hd 22 98 (by kernel_rfl) fun uG eG gG _ => ?_
        replace gG : uG = .bool false := gG
        subst gG
        refine wpOp_run rfl rfl rfl rfl eG ?_
        refine hf.depE hg hd 23 99 (by kernel_rfl) fun u0 e0 g0 h0 => ?_
        replace g0 : u0 = .slice A3 n3 cp3 := g0
        subst g0
        refine hf.depE hg hd 24 100 (by kernel_rfl) fun u1 e1 g1 h1 => ?_
        replace g1 : u1 = .slice A4 n3 cp4 := g1
        subst g1
        have SM := same_any A3 A4 n3 cp3 n3 cp4 ps ps w' (HR3f.out.no hW.kp) (HR4f.out.no hW.kp) (by omega) (by omega)
        rw [decide_eq_true rfl] at SM
        go_simp
        with_reducible refine SM.mono ?_
        rintro e w'' ⟨rfl, k⟩
        exact hK _ _ rfl ((hW.call FS.out k).upd 25 _ trivial)
      · intro r a w' hf hg hW hr hd K hK
        refine hf.depE hg hd 22 98 (by kernel_rfl) fun uG eG gG _ => ?_
        replace gG : uG = .bool false := gG
        subst gG
        refine wpOp_run rfl rfl rfl rfl eG ?_
        refine hf.depE hg hd 25 101 (by kernel_rfl) fun u0 e0 g0 h0 => ?_
        replace g0 : u0 = .bool true := g0
        subst g0
        go_simp
        exact hK _ _ rfl (hW.upd 26 _ trivial)
      · intro r a w' hf hg hW hr hd K hK
        refine wpOp_of rfl rfl ?_
        refine hf.depE hg hd 22 98 (by kernel_rfl) fun u0 e0 g0 h0 => ?_
        replace g0 : u0 = .bool false := g0
        subst g0
        have e0' := get_of_getD e0
        refine hf.depE hg hd 26 102 (by kernel_rfl) fun u1 e1 g1 h1 => ?_
        replace g1 : u1 = .bool false := g1
        subst g1
        have e1' := get_of_getD e1
        go_simp
        exact hK _ _ rfl (hW.upd 27 _ trivial)
      · intro r a w' hf hg hW hr hd K hK
        refine wpOp_of rfl rfl ?_
        refine hf.depE hg hd 27 103 (by kernel_rfl) fun u0 e0 g0 h0 => ?_
        replace g0 : u0 = .bool false := g0
        subst g0
        go_simp
        exact hK _ _ rfl (hW.upd 28 _ trivial)
      · intro r a w' hf hg hW hr hd K hK
        refine hf.depE hg hd 28 104 (by kernel_rfl) fun uG eG gG _ => ?_
        replace gG : uG = .bool false := gG
        subst gG
        refine wpOp_run rfl rfl rfl rfl eG ?_
        have e0 : a.tmps.getD 13 undef = .int .i64 c1 := hf.evalFree (by kernel_rfl)
        go_simp
        exact hK _ _ rfl (hW.upd 29 _ trivial)
      · intro r a w' hf hg hW hr hd K hK
        refine hf.depE hg hd 28 104 (by kernel_rfl) fun uG eG gG _ => ?_
        replace gG : uG = .bool false := gG
        subst gG
        refine wpOp_run rfl rfl rfl rfl eG ?_
        have e0 : a.tmps.getD 16 undef = .int .i64 c1 := hf.evalFree (by kernel_rfl)
        go_simp
        exact hK _ _ rfl (hW.upd 30 _ trivial)
      · intro r a w' hf hg hW hr hd K hK
        refine hf.depE hg hd 28 104 (by kernel_rfl) fun uG eG gG _ => ?_
        replace gG : uG = .bool false := gG
        subst gG
        refine wpOp_run rfl rfl rfl rfl eG ?_
        refine hf.depE hg hd 29 105 (by kernel_rfl) fun u0 e0 g0 h0 => ?_
        replace g0 : u0 = .int .i64 c1 := g0
        subst g0
        refine hf.depE hg hd 30 106 (by kernel_rfl) fun u1 e1 g1 h1 => ?_
        replace g1 : u1 = .int .i64 c1 := g1
        subst g1
        go_simp
        exact hK _ _ rfl (hW.upd 31 _ trivial)
      · intro r a w' hf hg hW hr hd K hK
        refine wpOp_of rfl rfl ?_
        refine hf.depE hg hd 28 104 (by kernel_rfl) fun u0 e0 g0 h0 => ?_
        replace g0 : u0 = .bool false := g0
        subst g0
        have e0' := get_of_getD e0
        refine hf.depE hg hd 31 107 (by kernel_rfl) fun u1 e1 g1 h1 => ?_
        replace g1 : u1 = .bool false := g1
        subst g1
        have e1' := get_of_getD e1
        go_simp
        exact hK _ _ rfl (hW.upd 32 _ trivial)
      · intro r a w' hf hg hW hr hd K hK
        refine wpOp_of rfl rfl ?_
        refine hf.depE hg hd 32 108 (by kernel_rfl) fun u0 e0 g0 h0 => ?_
        replace g0 : u0 = .bool false := g0
        subst g0
        go_simp
        exact hK _ _ rfl (hW.upd 33 _ trivial)
      · intro r a w' hf hg hW hr hd K hK
        refine hf.depE hg hd 33 109 (by kernel_rfl) fun uG eG gG _ => ?_
        replace gG : uG = .bool false := gG
        subst gG
        refine wpOp_run rfl rfl rfl rfl eG ?_
        have e0 : a.tmps.getD 17 undef = .int .i64 sv := hf.evalFree (by kernel_rfl)
        go_simp
        exact hK _ _ rfl (hW.upd 34 _ trivial)
      · intro r a w' hf hg hW hr hd K hK
        refine hf.depE hg hd 33 109 (by kernel_rfl) fun uG eG gG _ => ?_
        replace gG : uG = .bool false := gG
        subst gG
        refine wpOp_run rfl rfl rfl rfl eG ?_
        have e0 : a.tmps.getD 19 undef = .int .i64 sv := hf.evalFree (by kernel_rfl)
        go_simp
        exact hK _ _ rfl (hW.upd 35 _ trivial)
      · intro r a w' hf hg hW hr hd K hK
        refine hf.depE hg hd 33 109 (by kernel_rfl) fun uG eG gG _ => ?_
        replace gG : uG = .bool false := gG
        subst gG
        refine wpOp_run rfl rfl rfl rfl eG ?_
        refine hf.depE hg hd 34 110 (by kernel_rfl) fun u0 e0 g0 h0 => ?_
        replace g0 : u0 = .int .i64 sv := g0
        subst g0
        refine hf.depE hg hd 35 111 (by kernel_rfl) fun u1 e1 g1 h1 => ?_
        replace g1 : u1 = .int .i64 sv := g1
        subst g1
        go_simp
        exact hK _ _ rfl (hW.upd 36 _ trivial)
      · intro r a w' hf hg hW hr hd K hK
        refine wpOp_of rfl rfl ?_
        refine hf.depE hg hd 33 109 (by kernel_rfl) fun u0 e0 g0 h0 => ?_
        replace g0 : u0 = .bool false := g0
        subst g0
        have e0' := get_of_getD e0
        refine hf.depE hg hd 36 112 (by kernel_rfl) fun u1 e1 g1 h1 => ?_
        replace g1 : u1 = .bool false := g1
        subst g1
        have e1' := get_of_getD e1
        go_simp
        exact hK _ _ rfl (hW.upd 37 _ trivial)
      · intro r a w' hf hg hW hr hd K hK
        refine wpOp_of rfl rfl ?_
        refine hf.depE hg hd 37 113 (by kernel_rfl) fun u0 e0 g0 h0 => ?_
        replace g0 : u0 = .bool false := g0
        subst g0
        go_simp
        exact hK _ _ rfl (hW.upd 38 _ trivial)
      · intro r a w' hf hg hW hr hd K hK
        refine hf.depE hg hd 38 114 (by kernel_rfl) fun uG eG gG _ => ?_
        replace gG : uG = .bool false := gG
        subst gG
        refine wpOp_run rfl rfl rfl rfl eG ?_
        have e0 : a.tmps.getD 18 undef = .int .i64 c2 := hf.evalFree (by kernel_rfl)
        go_simp
        exact hK _ _ rfl (hW.upd 39 _ trivial)
      · intro r a w' hf hg hW hr hd K hK
        refine hf.depE hg hd 38 114 (by kernel_rfl) fun uG eG gG _ => ?_
        replace gG : uG = .bool false := gG
        subst gG
        refine wpOp_run rfl rfl rfl rfl eG ?_
        have e0 : a.tmps.getD 20 undef = .int .i64 c2 := hf.evalFree (by kernel_rfl)
        go_simp
        exact hK _ _ rfl (hW.upd 40 _ trivial)
      · intro r a w' hf hg hW hr hd K hK
        refine hf.depE hg hd 38 114 (by kernel_rfl) fun uG eG gG _ => ?_
        replace gG : uG = .bool false := gG
        subst gG
        refine wpOp_run rfl rfl rfl rfl eG ?_
        refine hf.depE hg hd 39 115 (by kernel_rfl) fun u0 e0 g0 h0 => ?_
        replace g0 : u0 = .int .i64 c2 := g0
        subst g0
        refine hf.depE hg hd 40 116 (by kernel_rfl) fun u1 e1 g1 h1 => ?_
        replace g1 : u1 = .int .i64 c2 := g1
        subst g1
        go_simp
        exact hK _ _ rfl (hW.upd 41 _ trivial)
      · intro r a w' hf hg hW hr hd K hK
        refine wpOp_of rfl rfl ?_
        refine hf.depE hg hd 38 114 (by kernel_rfl) fun u0 e0 g0 h0 => ?_
        replace g0 : u0 = .bool false := g0
        subst g0
        have e0' := get_of_getD e0
        refine hf.depE hg hd 41 117 (by kernel_rfl) fun u1 e1 g1 h1 => ?_
        replace g1 : u1 = .bool false := g1
        subst g1
        have e1' := get_of_getD e1
        go_simp
        exact hK _ _ rfl (hW.upd 42 _ trivial)
    intro r' w8 hg hW hr'
    have hkN := hW.kp
    obtain ⟨q42, hq42⟩ : ∃ u, r' 42 = some u := Option.ne_none_iff_exists'.1 (hr' 42 (by decide))
    have hk42 := hg 42 q42 hq42
    replace hk42 : q42 = .bool false := hk42
    subst hk42
    simp only [List.length_cons, List.length_nil, Nat.reduceAdd, List.range_succ, List.range_zero, List.nil_append, List.cons_append, List.map_cons, List.map_nil, putAll, Act.put, List.setIfInBounds_toArray, List.set_cons_succ, List.set_cons_zero, hq42, Option.getD_some]
    clear hg hW hr' FS hq42
    have K8 := Lib.hid hkN
    have KX8 := Lib.hid (KX7.out.tr hkN)
    have HR1g := Lib.hid (HR1f.out.no hkN)
    have HR2g := Lib.hid (HR2f.out.no hkN)
    clear hkN p0 p1 p2 p3 z1 z2 z3 z4 z5 z6
    go_wp2_with fail
    go_loopw [21] (fun vi wr => ∃ k : Nat, k ≤ n1 ∧ vi = .int .i64 (k : Nat) ∧ Kp No w8 wr) (fun vi _ => n1 - (intOf vi).toNat)
    case atStart => exact ⟨0, by omega, rfl, Kp.refl _ _⟩
    case round =>
      obtain ⟨k, hk, rfl, hkp⟩ := hrel
      have HKP := Lib.hid hkp
      by_cases hlt : k < n1
      · obtain ⟨x, hx⟩ : ∃ x, (dmC Z l S K c1)[k]? = some x := ⟨_, List.getElem?_eq_getElem (by rw [HR1g.out.1]; exact hlt)⟩
        obtain ⟨b1, o1, rfl, hb1, x1⟩ := (HR1g.out.no hkp).2 k x hx
        obtain ⟨b2, o2, rfl, hb2, x2⟩ := (HR2g.out.no hkp).2 k x hx
        have d1 : (x != x) = false := by simp
        have hlt' : (k : Int) < (n1 : Int) := by omega
        clear hx hkp
        go_wp2_with fail
        go_quiet (fail)
        go_wp2_with fail
        go_roundw
        case rel => exact ⟨k + 1, by omega, by go_num, HKP.out.tr (Kp.drewN _ _ _)⟩
        case measure => simp [intOf]; omega
      · obtain rfl : k = n1 := by omega
        clear hkp
        go_wp2_with fail
        with_reducible refine (shown_any _).mono ?_
        rintro e w9 ⟨rfl, k9⟩
        go_wp2_with fail
        go_ret
        exact ⟨rfl, HK.out.tr (KX8.out.tr (HKP.out.tr k9))⟩
end Go.Proofs.YtpkbpeeelpgmcaaGreat
