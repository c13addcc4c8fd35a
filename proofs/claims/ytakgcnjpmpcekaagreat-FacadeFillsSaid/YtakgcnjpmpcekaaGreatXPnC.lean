/- Chapter 24: the numbers of the best division (Plan's other closure): walked. Printed by gen_pnb.py. -/
import Derived.Test.YtakgcnjpmpcekaaGreatXPnB
namespace Go.Proofs.YtakgcnjpmpcekaaGreat
open Go.RowKit Go.Kq

/-- The best division, as the program holds it: a box with its pointer. -/
structure Cx.All (X : Cx) (gA pa : Nat) (q : Int × Bool) (w : World) : Prop where
  a : w.heap[gA]? = some (.cells #[pt pa] 63 (0, 0))
  p : ChB w pa q
theorem Cx.All.kp {X : Cx} {gA pa : Nat} {q : Int × Bool} {w w' : World} {av : Nat → Prop} (h : X.All gA pa q w) (hm : X.Me w av) (k : Kp (Kq.One X.gK) w w') : X.All gA pa q w' := by
  refine ⟨k.heap h.a fun e => ?_, k.heap h.p (hm.ne h.p)⟩
  have e : gA = X.gK := e
  have h1 := h.a
  subst e
  obtain ⟨_, _, _, _, cs', h5, _⟩ := hm
  rw [h1] at h5
  injection h5 with h5
  injection h5 with _ h5
  exact absurd h5 (by decide)
theorem Cx.All.cells {X : Cx} {gA pa : Nat} {q : Int × Bool} {w : World} (h : X.All gA pa q w) : w.cell? ⟨gA, 0, none⟩ = some (.pointer (some ⟨pa, 0, none⟩)) ∧ w.cell? ⟨pa, 0, none⟩ = some (.int .i64 q.1) := by
  have h1 := h.a
  exact ⟨by rw [cell_of_row _ _ _ _ _ _ h1]; rfl, h.p.cells.1⟩
def NumR (X : Cx) (av : Nat → Prop) (v : Int) (j at_ : Nat) (w : World) (e : Ending) (w' : World) : Prop := e = .returned (.int .i64 (numN X.l X.r X.least v j at_ : Nat)) ∧ X.Me w' av ∧ Kp (Kq.One X.gK) w w'
set_option maxHeartbeats 8000000 in
set_option maxRecDepth 100000 in
theorem fnumber_any (X : Cx) (H : X.Ok) (gA pa : Nat) (q : Int × Bool) (j k at_ M : Nat) (av : Nat → Prop) (w : World) (hk : j + 1 + k = X.J) (hat : at_ ≤ X.m) (hm : X.Me w av) (hav : ∀ b, av b → b < w.heap.size) (hA : X.All gA pa q w)
    (hM1 : 1 ≤ M) (hMm : at_ + sizN X.n k * M ≤ X.m) (hMo : okN X.l X.r X.least q.1 j at_ M = true) :
    Calls Tryz.prog 33 #[.int .i64 (k : Nat), .int .i64 (at_ : Nat), pt X.gF, pt X.gB, pt gA] w (NumR X av q.1 j at_ w) := by
  have HAV := Lib.hid hav
  have HM0 := Lib.hid hm
  have HA := Lib.hid hA
  have hn12 := H.hn
  have h60 := H.hm
  have hkj0 : j + 1 + k = (X.n + 1) / 2 := hk
  have hkJ' : k < (X.n + 1) / 2 := by omega
  have hk6 : k < 7 := by omega
  have HJ := Lib.hid hk
  obtain ⟨SZ, hSZ⟩ : ∃ SZ, SZ = sizN X.n k := ⟨_, rfl⟩
  have hs1 : 1 ≤ SZ := by rw [hSZ]; exact siz_pos _ _
  have hs2 : SZ ≤ 2 := by rw [hSZ]; unfold sizN; split <;> omega
  have SIZ := Lib.hid (fun w0 => fsize_any X.A X.R X.n X.ca X.m X.cr X.least k w0 H.hn hkJ')
  have GAP := Lib.hid (fun (q : Nat) (w0 : World) (k0 : Kp No X.w0 w0) (hq : at_ + SZ * q ≤ X.m) => gap_any X.A X.R X.n X.ca X.m X.cr X.least X.l X.r k at_ q w0 (H.hA.no k0) (H.hR.no k0) H.hn H.hm hkJ' (by rw [← hSZ]; exact hq) H.hl H.hr H.hle)
  rw [← hSZ] at SIZ hMm
  unfold frV frC at SIZ GAP
  have OK := Lib.hid (show ∀ n, okN X.l X.r X.least q.1 j at_ n = ((ggpN X.l X.r X.least k at_ n).2 && (bstN X.l X.r X.least j (at_ + SZ * n)).2 && decide (max (ggpN X.l X.r X.least k at_ n).1 (bstN X.l X.r X.least j (at_ + SZ * n)).1 ≤ q.1)) from fun n => by
    have e1 : (X.l.length + 1) / 2 - (j + 1) = k := by rw [H.hA.1]; omega
    show (_ && _ && decide (max _ _ ≤ _)) = _
    rw [e1, H.hA.1, ← hSZ])
  obtain ⟨f1, f2, f3, f4⟩ := fst_find (okN X.l X.r X.least q.1 j at_) (X.r.length + 1) 1 ⟨M, hM1, by
    rw [H.hR.1]
    have := Nat.mul_le_mul_right M hs1
    omega, hMo⟩
  have HNUM := Lib.hid (show fstN (okN X.l X.r X.least q.1 j at_) (X.r.length + 1) 1 = numN X.l X.r X.least q.1 j at_ from rfl)
  have hNM : fstN (okN X.l X.r X.least q.1 j at_) (X.r.length + 1) 1 ≤ M := by
    rcases Nat.lt_or_ge M (fstN (okN X.l X.r X.least q.1 j at_) (X.r.length + 1) 1) with h | h
    · rw [f4 M hM1 h] at hMo
      cases hMo
    · exact h
  have F1 := Lib.hid f1
  have F4 := Lib.hid f4
  generalize fstN (okN X.l X.r X.least q.1 j at_) (X.r.length + 1) 1 = NN at *
  have HNm := Lib.hid (show ∀ n, n ≤ NN → at_ + SZ * n ≤ X.m from fun n hn => by
    have := Nat.mul_le_mul_left SZ (Nat.le_trans hn hNM)
    omega)
  have hNN60 : NN ≤ 60 := by
    have h := HNm.out NN (Nat.le_refl _)
    have := Nat.mul_le_mul_right NN hs1
    omega
  have HME := Lib.hid hm
  clear hm hav hA hk hSZ f1 f4 hMo hMm hNM hM1 hkj0 hkJ'
  unfold pt
  go_enter Tryz.func33, Tryz.ntmps33
  go_wp2_with fail
  go_loopw [8] (fun i wr => ∃ N : Nat, 1 ≤ N ∧ N ≤ NN ∧ i = .int .i64 (N : Nat) ∧ X.Me wr av ∧ Kp (Kq.One X.gK) w wr ∧ X.All gA pa q wr) (fun i _ => NN - (intOf i).toNat)
  case atStart => exact ⟨1, Nat.le_refl _, f2, rfl, HME.out, Kp.refl _ _, HA.out⟩
  case round =>
    clear HME HA
    obtain ⟨N, hN, hNN, rfl, hme, hkp, hall⟩ := hrel
    have HME := Lib.hid hme
    have HKP := Lib.hid hkp
    have HA := Lib.hid hall
    have HQ := Lib.hid (HNm.out N hNN)
    obtain ⟨sn, hsn⟩ : ∃ sn, sn = SZ * N := ⟨_, rfl⟩
    obtain ⟨aq, haq⟩ : ∃ aq, aq = at_ + sn := ⟨_, rfl⟩
    have hle : aq ≤ X.m := by rw [haq, hsn]; exact HQ.out
    have q1 : IntKind.i64.wrap ((SZ : Int) * (N : Int)) = (sn : Int) := by
      rw [show (SZ : Int) * (N : Int) = (sn : Int) by rw [hsn]; simp, IntKind.wrap_i64]; omega
    have q2 : IntKind.i64.wrap ((at_ : Int) + (sn : Int)) = (aq : Int) := by
      rw [show (at_ : Int) + (sn : Int) = (aq : Int) by rw [haq]; simp, IntKind.wrap_i64]; omega
    have HAS := Lib.hid (show aq = at_ + SZ * N by rw [haq, hsn])
    have Q1 := Lib.hid q1
    have Q2 := Lib.hid q2
    clear hme hkp hall hsn haq q1 q2
    have gfc := HME.out.fc
    obtain ⟨f0, f1, f2⟩ := gfc
    go_wp2_with fail
    with_reducible refine (GAP.out N _ HME.out.kp HQ.out).mono ?_
    rintro e wr4 ⟨rfl, k4⟩
    have HME4 := Lib.hid (HME.out.no k4)
    have HKP4 := Lib.hid (HKP.out.no k4)
    have HA4 := Lib.hid (HA.out.kp HME.out (k4.mono fun _ _ h => h.elim))
    have REC := Lib.hid (fun (w0 : World) (k0 : Kp (Kq.One X.gK) wr4 w0) (hm : X.Me w0 av) => best_any X H j (k + 1) aq av w0 (by have := HJ.out; omega) hle hm (fun b hb => by
      have h3 := k0.size
      have h4 := HKP4.out.size
      have h1 := HAV.out b hb
      omega))
    obtain ⟨k1, hk1⟩ : ∃ k1, k1 = k + 1 := ⟨_, rfl⟩
    rw [← hk1] at REC
    have hk1w : IntKind.i64.wrap ((k : Int) + 1) = (k1 : Int) := by rw [IntKind.wrap_i64]; omega
    have q1 : IntKind.i64.wrap ((SZ : Int) * (N : Int)) = (sn : Int) := Q1.out
    have q2 : IntKind.i64.wrap ((at_ : Int) + (sn : Int)) = (aq : Int) := Q2.out
    have HOK := Lib.hid (OK.out N)
    rw [← HAS.out] at HOK
    unfold pt at REC
    clear hk1 k4 f0 f1 f2
    generalize ggpN X.l X.r X.least k at_ N = GG at *
    go_wp2_with fail
    refine wp_region_each (fun ix uR => match ix with | 0 => uR = .func (.func 28) #[] #[.pointer (some ⟨X.gF, 0, none⟩), .pointer (some ⟨X.gR, 0, none⟩), .pointer (some ⟨X.gK, 0, none⟩), .pointer (some ⟨X.gB, 0, none⟩)] | 1 => uR = .int .i64 (k : Nat) | 2 => uR = .int .i64 (k1 : Nat) | 3 => uR = .int .i64 (at_ : Nat) | 4 => uR = .agg #[.slice X.A X.n X.ca, .slice X.R X.m X.cr, .int .i64 X.least] | 5 => uR = .int .i64 (k : Nat) | 6 => uR = .int .i64 (SZ : Nat) | 7 => uR = .int .i64 (N : Nat) | 8 => uR = .int .i64 (sn : Nat) | 9 => uR = .int .i64 (aq : Nat) | _ => True) (HvM (fun wz => X.Me wz av ∧ Kp (Kq.One X.gK) wr4 wz) (fun ix wz u => (ix = 10 → RecF X av j aq wz u) ∧ (ix = 11 → RecF X av j aq wz u) ∧ True)) (by kernel_rfl) (by kernel_rfl) (by kernel_rfl) ?_ ?_ ?_
    · exact HvM.start _ (⟨HME4.out.no (Kp.drew _ _), Kp.drew _ _⟩)
    · refine ⟨?_, ?_, ?_, ?_, ?_, ?_, ?_, ?_, ?_, ?_, ?_, ?_, trivial⟩
      · intro r a w' hf hg hW hr hd K hK
        refine wpOp_of rfl rfl ?_
        have e0 : a.tmps.getD 3 undef = .pointer (some ⟨X.gB, 0, none⟩) := hf.evalFree (by kernel_rfl)
        have z0 := hW.m.1.bc
        go_simp
        exact hK _ _ rfl (hW.upd 0 _ ⟨fun e => absurd e (by decide), fun e => absurd e (by decide), trivial⟩)
      · intro r a w' hf hg hW hr hd K hK
        refine wpOp_of rfl rfl ?_
        have e0 : a.tmps.getD 0 undef = .int .i64 (k : Nat) := hf.evalFree (by kernel_rfl)
        go_simp
        exact hK _ _ rfl (hW.upd 1 _ ⟨fun e => absurd e (by decide), fun e => absurd e (by decide), trivial⟩)
      · intro r a w' hf hg hW hr hd K hK
        refine wpOp_of rfl rfl ?_
        refine hf.depE hg hd 1 23 (by kernel_rfl) fun u0 e0 g0 h0 => ?_
        replace g0 : u0 = .int .i64 (k : Nat) := g0
        subst g0
        go_simp
        exact hK _ _ rfl (hW.upd 2 _ ⟨fun e => absurd e (by decide), fun e => absurd e (by decide), trivial⟩)
      · intro r a w' hf hg hW hr hd K hK
        refine wpOp_of rfl rfl ?_
        have e0 : a.tmps.getD 1 undef = .int .i64 (at_ : Nat) := hf.evalFree (by kernel_rfl)
        go_simp
        exact hK _ _ rfl (hW.upd 3 _ ⟨fun e => absurd e (by decide), fun e => absurd e (by decide), trivial⟩)
      · intro r a w' hf hg hW hr hd K hK
        refine wpOp_of rfl rfl ?_
        have e0 : a.tmps.getD 2 undef = .pointer (some ⟨X.gF, 0, none⟩) := hf.evalFree (by kernel_rfl)
        have z0 := hW.m.1.fc.1
        have z1 := hW.m.1.fc.2.1
        have z2 := hW.m.1.fc.2.2
        go_simp
        exact hK _ _ rfl (hW.upd 4 _ ⟨fun e => absurd e (by decide), fun e => absurd e (by decide), trivial⟩)
      · intro r a w' hf hg hW hr hd K hK
        refine wpOp_of rfl rfl ?_
        have e0 : a.tmps.getD 0 undef = .int .i64 (k : Nat) := hf.evalFree (by kernel_rfl)
        go_simp
        exact hK _ _ rfl (hW.upd 5 _ ⟨fun e => absurd e (by decide), fun e => absurd e (by decide), trivial⟩)
      · intro r a w' hf hg hW hr hd K hK
        refine wpOp_of rfl rfl ?_
        refine hf.depE hg hd 4 26 (by kernel_rfl) fun u0 e0 g0 h0 => ?_
        replace g0 : u0 = .agg #[.slice X.A X.n X.ca, .slice X.R X.m X.cr, .int .i64 X.least] := g0
        subst g0
        refine hf.depE hg hd 5 27 (by kernel_rfl) fun u1 e1 g1 h1 => ?_
        replace g1 : u1 = .int .i64 (k : Nat) := g1
        subst g1
        go_simp
        with_reducible refine (SIZ.out _).mono ?_
        rintro e w'' ⟨rfl, k⟩
        exact hK _ _ rfl ((hW.call ⟨hW.m.1.no k, hW.m.2.no k⟩ (fun ix u h => ⟨fun e => RecF.kp (h.1 e) hW.m.1 (k.mono fun _ _ h => h.elim), fun e => RecF.kp (h.2.1 e) hW.m.1 (k.mono fun _ _ h => h.elim), trivial⟩)).upd 6 _ ⟨fun e => absurd e (by decide), fun e => absurd e (by decide), trivial⟩)
      · intro r a w' hf hg hW hr hd K hK
        refine wpOp_of rfl rfl ?_
        have e0 : a.tmps.getD 8 undef = .int .i64 (N : Nat) := hf.evalFree (by kernel_rfl)
        go_simp
        exact hK _ _ rfl (hW.upd 7 _ ⟨fun e => absurd e (by decide), fun e => absurd e (by decide), trivial⟩)
      · intro r a w' hf hg hW hr hd K hK
        refine wpOp_of rfl rfl ?_
        refine hf.depE hg hd 6 28 (by kernel_rfl) fun u0 e0 g0 h0 => ?_
        replace g0 : u0 = .int .i64 (SZ : Nat) := g0
        subst g0
        refine hf.depE hg hd 7 29 (by kernel_rfl) fun u1 e1 g1 h1 => ?_
        replace g1 : u1 = .int .i64 (N : Nat) := g1
        subst g1
        go_simp
        exact hK _ _ rfl (hW.upd 8 _ ⟨fun e => absurd e (by decide), fun e => absurd e (by decide), trivial⟩)
      · intro r a w' hf hg hW hr hd K hK
        refine wpOp_of rfl rfl ?_
        refine hf.depE hg hd 3 25 (by kernel_rfl) fun u0 e0 g0 h0 => ?_
        replace g0 : u0 = .int .i64 (at_ : Nat) := g0
        subst g0
        refine hf.depE hg hd 8 30 (by kernel_rfl) fun u1 e1 g1 h1 => ?_
        replace g1 : u1 = .int .i64 (sn : Nat) := g1
        subst g1
        go_simp
        exact hK _ _ rfl (hW.upd 9 _ ⟨fun e => absurd e (by decide), fun e => absurd e (by decide), trivial⟩)
      · intro r a w' hf hg hW hr hd K hK
        refine wpOp_of rfl rfl ?_
        refine hf.depE hg hd 0 22 (by kernel_rfl) fun u0 e0 g0 h0 => ?_
        replace g0 : u0 = .func (.func 28) #[] #[.pointer (some ⟨X.gF, 0, none⟩), .pointer (some ⟨X.gR, 0, none⟩), .pointer (some ⟨X.gK, 0, none⟩), .pointer (some ⟨X.gB, 0, none⟩)] := g0
        subst g0
        refine hf.depE hg hd 2 24 (by kernel_rfl) fun u1 e1 g1 h1 => ?_
        replace g1 : u1 = .int .i64 (k1 : Nat) := g1
        subst g1
        refine hf.depE hg hd 9 31 (by kernel_rfl) fun u2 e2 g2 h2 => ?_
        replace g2 : u2 = .int .i64 (aq : Nat) := g2
        subst g2
        go_simp
        with_reducible refine (REC.out _ hW.m.2 hW.m.1).mono ?_
        rintro e w'' ⟨p, rfl, hp, hme2, hav2, k⟩
        exact hK _ _ trivial ((hW.call ⟨hme2, hW.m.2.tr k⟩ (fun ix u h => ⟨fun e => RecF.kp (h.1 e) hW.m.1 (k), fun e => RecF.kp (h.2.1 e) hW.m.1 (k), trivial⟩)).upd 10 _ ⟨fun _ => ⟨p, rfl, hp, hav2⟩, fun e => absurd e (by decide), trivial⟩)
      · intro r a w' hf hg hW hr hd K hK
        refine wpOp_of rfl rfl ?_
        refine hf.depE hg hd 10 32 (by kernel_rfl) fun u0 e0 g0 h0 => ?_
        have f0 := (hW.hv 10 u0 h0).1 rfl
        go_simp
        exact hK _ _ trivial (hW.upd 11 _ ⟨fun e => absurd e (by decide), fun _ => f0, trivial⟩)
    intro r' w5 hg hW hr'
    have hmN := hW.m
    obtain ⟨q11, hq11⟩ : ∃ u, r' 11 = some u := Option.ne_none_iff_exists'.1 (hr' 11 (by decide))
    have hF11 := (hW.hv 11 q11 hq11).2.1 rfl
    simp only [List.length_cons, List.length_nil, Nat.reduceAdd, List.range_succ, List.range_zero, List.nil_append, List.cons_append, List.map_cons, List.map_nil, putAll, Act.put, List.setIfInBounds_toArray, List.set_cons_succ, List.set_cons_zero, hq11, Option.getD_some]
    clear hg hW hr' hq11
    obtain ⟨p, hp, hpb, hpn⟩ := hF11
    subst hp
    have HM5 := Lib.hid hmN
    have ha5 := HA4.out.kp HME4.out hmN.2
    have HA5 := Lib.hid ha5
    have hpc := hpb.cells
    have hac := ha5.cells
    have HKP5 := Lib.hid (HKP4.out.tr hmN.2)
    generalize bstN X.l X.r X.least j aq = V at *
    obtain ⟨p0, p1, p2, p3, p4⟩ := hpc
    obtain ⟨a0, a1⟩ := hac
    obtain ⟨v1, v2⟩ := V
    obtain ⟨g1, g2⟩ := GG
    obtain ⟨qa, qb⟩ := q
    obtain ⟨mx, hmx⟩ : ∃ mx, mx = max g1 v1 := ⟨_, rfl⟩
    have hmxe : max g1 v1 = mx := hmx.symm
    have hmxi : (if g1 < v1 then v1 else g1) = mx := by rw [hmx]; split <;> omega
    have HMX := Lib.hid hmx
    have hgl := (Array.getElem?_eq_some_iff.1 ha5.a).1
    have hpl := ha5.p.cells.2.2.2.2
    have hg0 := ha5.a
    clear hmx hmN hpb hk1w q1 q2 hpn ha5 hg0
    dsimp only at p0 p1 a1
    unfold pt
    have hno : okN X.l X.r X.least qa j at_ N = false → N + 1 ≤ NN := fun h => by
      rcases Nat.lt_or_ge N NN with h2 | h2
      · omega
      · have : N = NN := by omega
        subst this
        rw [F1.out] at h
        cases h
    have hno := Lib.hid hno
    clear HA HKP HA4 HKP4 HME HME4
    cases g2
    · have HNO := Lib.hid (hno.out (by rw [HOK.out]; rfl))
      go_wp2_with fail
      go_quiet (fail)
      have hkd := Kp.drewN No w5 nq
      have HE := Lib.hid (And.intro (HM5.out.1.no hkd) (And.intro (HKP5.out.no hkd) (HA5.out.kp HM5.out.1 (hkd.mono fun _ _ h => h.elim))))
      clear hkd
      go_wp2_with fail
      go_roundw
      case rel => exact ⟨N + 1, by omega, HNO.out, by go_num, HE.out⟩
      case measure => simp [intOf]; have := HNO.out; omega
    · cases v2
      · have HNO := Lib.hid (hno.out (by rw [HOK.out]; rfl))
        go_wp2_with fail
        go_quiet (fail)
        have hkd := Kp.drewN No w5 nq
        have HE := Lib.hid (And.intro (HM5.out.1.no hkd) (And.intro (HKP5.out.no hkd) (HA5.out.kp HM5.out.1 (hkd.mono fun _ _ h => h.elim))))
        clear hkd
        go_wp2_with fail
        go_roundw
        case rel => exact ⟨N + 1, by omega, HNO.out, by go_num, HE.out⟩
        case measure => simp [intOf]; have := HNO.out; omega
      · by_cases hlt : mx ≤ qa
        · have d1 : decide (mx ≤ qa) = true := by simp [hlt]
          have HNN := Lib.hid (show N = NN by
            rcases Nat.lt_or_ge N NN with h2 | h2
            · have h3 := F4.out N hN h2
              rw [HOK.out] at h3
              dsimp only at h3
              rw [HMX.out] at hlt
              simp [hlt] at h3
            · omega)
          go_wp2_with fail
          go_quiet (fail)
          have hkd := Kp.drewN No w5 nq
          go_wp2_with fail
          go_ret
          exact ⟨by rw [← HNUM.out, HNN.out]; rfl, HM5.out.1.no hkd, HKP5.out.no hkd⟩
        · have d1 : decide (mx ≤ qa) = false := by simp; omega
          have HNO := Lib.hid (hno.out (by rw [HOK.out]; rw [HMX.out] at hlt; simp [hlt]))
          go_wp2_with fail
          go_quiet (fail)
          have hkd := Kp.drewN No w5 nq
          have HE := Lib.hid (And.intro (HM5.out.1.no hkd) (And.intro (HKP5.out.no hkd) (HA5.out.kp HM5.out.1 (hkd.mono fun _ _ h => h.elim))))
          clear hkd
          go_wp2_with fail
          go_roundw
          case rel => exact ⟨N + 1, by omega, HNO.out, by go_num, HE.out⟩
          case measure => simp [intOf]; have := HNO.out; omega
end Go.Proofs.YtakgcnjpmpcekaaGreat
