/- Chapter 15: the document's Least. Printed by gen_rsb.py SEAT NUMBER-OF-Least. -/
import Derived.Laws.Bits64
import Derived.Test.YtpkbpeeelpgmcaaGreatXRsL
import Derived.Test.YtpkbpeeelpgmcaaGreatXRdOM
import Derived.Test.YtpkbpeeelpgmcaaGreatXLibMakeM
namespace Go.Proofs.YtpkbpeeelpgmcaaGreat
open Go.RowKit Go.Kq Go.Flow

set_option maxHeartbeats 4000000 in
set_option maxRecDepth 100000 in
theorem rLeast_bad (Z : Nz) (l : List Sto) (vs : List Sv) (A B C : Option Addr) (ca cb n cc : Nat) (c : Int) (w : World) (hR : RdNz w A B Z) (hS : RdSt w C n vs l) (hc : ChkW Z l c) (hz : c ≠ 0) :
    Calls Tryz.prog 17 #[windV Z A B C ca cb n cc] w fun e w' => e = .returned (.tuple #[.slice none 0 0, .int .i64 c]) ∧ Kp No w w' := by
  obtain ⟨w0, hw0⟩ : ∃ w0, (w.alloc (.cells #[.int .i64 Z.n, .slice A Z.tr.length ca, .slice B Z.ch.length cb, .slice C n cc] 28)) = w0 := ⟨_, rfl⟩
  have hk0 : Kp No w w0 := by rw [← hw0]; exact Kp.alloc _ _ _
  have HBX := Lib.hid (show w0.heap[w.heap.size]? = some (.cells #[.int .i64 Z.n, .slice A Z.tr.length ca, .slice B Z.ch.length cb, .slice C n cc] 28 (0, 0)) by rw [← hw0]; exact heap_alloc_new w _)
  have HK := Lib.hid hk0
  have CK := rWcheck_any Z l vs A B C ca cb n cc w0 (hR.no hk0) (hS.no hk0)
  unfold windV at CK ⊢
  replace CK := Lib.hid CK
  clear hk0 hR hS
  obtain ⟨p0, p1, p2, p3⟩ := four_at HBX.out
  have HC := Lib.hid hc
  have d1 : (c != 0) = true := by rw [bne_iff_ne]; exact hz
  clear hz hc
  go_enter Tryz.func17, Tryz.ntmps17
  go_wp2_with fail
  with_reducible refine CK.out.mono ?_
  rintro e w1 ⟨c1, rfl, hc1, k1⟩
  obtain rfl := hc1.uniq HC.out
  go_wp2_with fail
  exact bodyPost_ret (v := .tuple #[.slice none 0 0, .int .i64 c1]) (by simp [results, Tryz.results17, go_sem]) rfl ⟨rfl, HK.out.tr k1⟩
set_option maxHeartbeats 8000000 in
set_option maxRecDepth 100000 in
theorem rLeast_ok (N : Net) (hN : N.Ok) (h7 : N.n ≤ 7) (l : List Sto) (vs : List Sv) (A B C : Option Addr) (ca cb n cc : Nat) (w : World) (hR : RdNet w A B N) (hS : RdSt w C n vs l) (hc : ChkW (nz N) l 0) (h10 : l.length + keysN l ≤ 10) :
    Calls Tryz.prog 17 #[windV (nz N) A B C ca cb n cc] w (LeaR N l w) := by
  have hok := (chkW_zero hc).2
  rw [nz_ch] at hok
  have hl := hS.len
  obtain ⟨w0, hw0⟩ : ∃ w0, (w.alloc (.cells #[.int .i64 N.n, .slice A N.tr.length ca, .slice B N.ch.length cb, .slice C n cc] 28)) = w0 := ⟨_, rfl⟩
  have hk0 : Kp No w w0 := by rw [← hw0]; exact Kp.alloc _ _ _
  have HBX := Lib.hid (show w0.heap[w.heap.size]? = some (.cells #[.int .i64 N.n, .slice A N.tr.length ca, .slice B N.ch.length cb, .slice C n cc] 28 (0, 0)) by rw [← hw0]; exact heap_alloc_new w _)
  have HK := Lib.hid hk0
  have CK := rWcheck_any (nz N) l vs A B C ca cb n cc w0 ((rdnz_of hR).no hk0) (hS.no hk0)
  have ST : ∀ (y : Cv) W, Kp No w0 W → CvIs W y → CbOk l.length (keysN l) y.c → Calls Tryz.prog 27 #[windV (nz N) A B C ca cb n cc, y.val] W fun e W' => e = .returned (.bool (starC N l y.c)) ∧ Kp No W W' := fun y W k hy hcb => rstarves_any N hN h7 l vs A B C y.P y.Q ca cb n cc y.p y.cp y.q y.cq y.c.st y.c.ky W ((hR.no hk0).no k) ((hS.no hk0).no k) hy.1 hy.2 hok (by have := hcb.s2; rw [hl] at this; exact this) hcb.k2 (by have := up_len hcb.s1 hcb.s2; have := hok.l8; omega) (by have := up_len hcb.k1 hcb.k2; have := hok.k8; omega)
  have HUP := Lib.hid (star_up hok)
  have HS0 := Lib.hid (hS.no hk0)
  have hl1 := hok.l1
  have hl8 := hok.l8
  have hk8 := hok.k8
  rw [hl] at hl1
  have HL := Lib.hid hl
  have HCH := Lib.hid hc
  unfold windV at CK ST ⊢
  rw [nz_ch, nz_tr] at CK ST ⊢
  simp only [show (nz N).n = (N.n : Int) from rfl] at CK ST ⊢
  replace CK := Lib.hid CK
  replace ST := Lib.hid ST
  clear hk0 hR hS hc hok
  obtain ⟨p0, p1, p2, p3⟩ := four_at HBX.out
  go_enter Tryz.func17, Tryz.ntmps17
  go_wp2_with fail
  with_reducible refine CK.out.mono ?_
  rintro e w1 ⟨c1, rfl, hc1, k1⟩
  obtain rfl := hc1.uniq HCH.out
  have K1 := Lib.hid k1
  have B1 := Lib.hid (k1.heap HBX.out id)
  clear p0 p1 p2 p3 k1 hc1
  obtain ⟨p0, p1, p2, p3⟩ := four_at B1.out
  obtain ⟨s0, hs0⟩ : ∃ s, l[0]? = some s := ⟨_, List.getElem?_eq_getElem (by rw [HL.out]; omega)⟩
  have HR3 := Lib.hid (HS0.out.no K1.out)
  obtain ⟨v0, bC, oC, hv0, rfl, hbC, y0, y1, is0⟩ := HR3.out.at_ hs0
  have HK0 := Lib.hid (show keysN l = v0.n by unfold keysN; rw [List.getD_eq_getElem?_getD, hs0]; exact is0.2.1.symm)
  rw [Nat.zero_mul, Nat.add_zero] at y0 y1
  obtain ⟨ch0, A0, KK, c0⟩ := v0
  dsimp only at y0 y1 HK0
  have hkk8 : KK ≤ 8 := by have := HK0.out; omega
  have hn8 : n ≤ 8 := by omega
  have hnk : n + KK ≤ 10 := by have := HK0.out; omega
  clear hs0 hv0 is0
  go_wp2_with fail
  go_quiet (fail)
  obtain ⟨w2, hw2⟩ : ∃ w2, w1.drewN nq = w2 := ⟨_, rfl⟩
  have hk2 : Kp No w1 w2 := by rw [← hw2]; exact Kp.drewN _ _ _
  rw [hw2]
  clear hw2 p0 p1 p2 p3 y0 y1
  have K2 := Lib.hid (K1.out.tr hk2)
  have B2 := Lib.hid (hk2.heap B1.out id)
  clear hk2
  obtain ⟨nk, hnke⟩ : ∃ nk, nk = n + KK := ⟨_, rfl⟩
  obtain ⟨T, hT⟩ : ∃ T : Nat, T = 2 ^ nk := ⟨_, rfl⟩
  have hT10 : T ≤ 1024 := by
    rw [hT]
    exact Nat.pow_le_pow_right (by omega) (show nk ≤ 10 by omega)
  have HTW := Lib.hid (show wrap64 ((2 : Int) ^ nk) = (T : Int) by
    have : ((2 : Int) ^ nk) = (T : Int) := by rw [hT]; simp
    rw [this]
    exact IntWalk.wrap64_in _ (by omega))
  have HNK := Lib.hid hnke
  have HT := Lib.hid hT
  have hmk := make_bools T (by omega)
  have hT0 : 0 < T := by rw [hT]; exact Nat.pow_pos (by omega)
  clear hT hnke
  have hTw := HTW.out
  rw [HNK.out] at hTw
  go_wp2_with fail
  obtain ⟨u6, hu6⟩ : ∃ u6, w2.alloc (.cells (Array.replicate T (Value.bool false)) 4) = u6 := ⟨_, rfl⟩
  have hk6 : Kp No w2 u6 := by rw [← hu6]; exact Kp.alloc _ _ _
  obtain ⟨q, hq⟩ : ∃ q : Nat → Bool, q = fun i => starC N l (cbOf n KK i) := ⟨_, rfl⟩
  have H0 := Lib.hid (show u6.heap[w2.heap.size]? = some (.cells (isR T q 0).toArray 4 (0, 0)) from by rw [isR_zero, ← hu6, List.toArray_replicate]; exact heap_alloc_new w2 _)
  rw [hu6]
  have hbw := (Array.getElem?_eq_some_iff.1 B2.out).1
  obtain ⟨gi, hgi⟩ : ∃ gi, gi = w2.heap.size := ⟨_, rfl⟩
  rw [← hgi] at H0 ⊢
  have HGI := Lib.hid hgi
  have HK6 := Lib.hid hk6
  have HQ := Lib.hid hq
  have B6 := Lib.hid (hk6.heap B2.out id)
  have HNE := Lib.hid (show w.heap.size ≠ gi by omega)
  have hSB : l.length = n := HL.out
  have HSK := Lib.hid (show keysN l = KK ∧ l.length = n from ⟨HK0.out, hSB⟩)
  have HCB := Lib.hid (show ∀ i, CbOk l.length (keysN l) (cbOf n KK i) from fun i => by rw [HSK.out.1, HSK.out.2]; exact cbOf_ok _ _ _)
  clear hu6 hmk hgi hk6 hq hbw hSB hTw
  go_loopw [8] (fun vi wr => ∃ t : Nat, t ≤ T ∧ vi = .int .i64 (t : Nat) ∧ wr.heap[gi]? = some (.cells (isR T q t).toArray 4 (0, 0)) ∧ Kp (Kq.One gi) u6 wr) (fun vi _ => T - (intOf vi).toNat)
  case atStart => exact ⟨0, by omega, rfl, H0.out, Kp.refl _ _⟩
  case round =>
    obtain ⟨t, ht, rfl, hin, hkp⟩ := hrel
    have HIN := Lib.hid hin
    have HKP := Lib.hid hkp
    have hgw : gi < wr.heap.size := (Array.getElem?_eq_some_iff.1 hin).1
    have HKW := Lib.hid (show Kp No w0 wr from K2.out.tr (HK6.out.trans hkp fun b hb e => by have e : b = gi := e; have := HGI.out; omega))
    have BW := Lib.hid (hkp.heap B6.out fun e => HNE.out e)
    obtain ⟨p0, p1, p2, p3⟩ := four_at BW.out
    clear hin hkp
    by_cases hlt : t < T
    · obtain ⟨tk, htk⟩ : ∃ tk, tk = t >>> n := ⟨_, rfl⟩
      have esh : (t : Int) / 2 ^ n = (tk : Int) := by rw [htk, Nat.shiftRight_eq_div_pow]; simp
      have HTK := Lib.hid (show tk < 2 ^ 20 by rw [htk, Nat.shiftRight_eq_div_pow]; exact Nat.lt_of_le_of_lt (Nat.div_le_self _ _) (by omega))
      have HQT := Lib.hid (show starC N l ⟨numB t n, numB tk KK⟩ = q t by rw [HQ.out, htk]; rfl)
      have HCT := Lib.hid (show CbOk l.length (keysN l) ⟨numB t n, numB tk KK⟩ by have h := HCB.out t; unfold cbOf at h; rwa [← htk] at h)
      have htT : (t : Int) < (T : Int) := by omega
      have ewu : IntKind.u64.wrap (n : Int) = (n : Int) := by rw [IntKind.wrap_u64]; omega
      have HKW0 := Lib.hid (show ∀ W, Kp (Kq.One gi) wr W → Kp No w0 W from fun W h => K2.out.tr (HK6.out.trans (HKP.out.tr h) fun b hb e => by have e : b = gi := e; have := HGI.out; omega))
      have HGW := Lib.hid hgw
      have HRC := Lib.hid (show wr.cell? ⟨gi, t, none⟩ = some (.bool false) by
        rw [cell_of_row _ _ _ _ _ _ HIN.out]
        have h := isR_at hlt q t
        simpa using h)
      clear htk hgw
      go_wp2_with fail
      refine wp_region_each (fun ix uR => match ix with | 0 => uR = .slice (some ⟨gi, 0, none⟩) T T | 1 => uR = .int .i64 (t : Nat) | 2 => uR = .agg #[.int .i64 N.n, .slice A N.tr.length ca, .slice B N.ch.length cb, .slice (some ⟨bC, oC, none⟩) n cc] | 3 => uR = .int .i64 (t : Nat) | 4 => uR = .int .i64 (n : Nat) | 6 => uR = .int .i64 (t : Nat) | 7 => uR = .int .i64 (n : Nat) | 8 => uR = .int .u64 (n : Nat) | 9 => uR = .int .i64 (tk : Nat) | 10 => uR = .int .i64 (KK : Nat) | 13 => uR = .bool (q t) | 14 => uR = .pointer (some ⟨gi, t, none⟩) | _ => True) (fun r w' => RsW wr gi t (.bool (q t)) 15 (FsL wr.heap.size (numB t n) (numB tk KK)) r w') (by kernel_rfl) (by kernel_rfl) (by kernel_rfl) ?_ ?_ ?_
      · exact RsW.start
      · refine ⟨?_, ?_, ?_, ?_, ?_, ?_, ?_, ?_, ?_, ?_, ?_, ?_, ?_, ?_, ?_, ?_, trivial⟩
        · intro r a w' hf hg hW hr hd K hK
          refine wpOp_of rfl rfl ?_
          have e0 : a.tmps.getD 7 undef = .slice (some ⟨gi, 0, none⟩) T T := hf.evalFree (by kernel_rfl)
          go_simp
          exact hK _ _ rfl (hW.upd 0 _ (by decide) (FsL.no (by decide) (by decide) (by decide)))
        · intro r a w' hf hg hW hr hd K hK
          refine wpOp_of rfl rfl ?_
          have e0 : a.tmps.getD 8 undef = .int .i64 (t : Nat) := hf.evalFree (by kernel_rfl)
          go_simp
          exact hK _ _ rfl (hW.upd 1 _ (by decide) (FsL.no (by decide) (by decide) (by decide)))
        · intro r a w' hf hg hW hr hd K hK
          refine wpOp_of rfl rfl ?_
          have e0 : a.tmps.getD 1 undef = .pointer (some ⟨w.heap.size, 0, none⟩) := hf.evalFree (by kernel_rfl)
          have z0 := hW.k1.cell p0 HNE.out
          have z1 := hW.k1.cell p1 HNE.out
          have z2 := hW.k1.cell p2 HNE.out
          have z3 := hW.k1.cell p3 HNE.out
          go_simp
          exact hK _ _ rfl (hW.upd 2 _ (by decide) (FsL.no (by decide) (by decide) (by decide)))
        · intro r a w' hf hg hW hr hd K hK
          refine wpOp_of rfl rfl ?_
          have e0 : a.tmps.getD 8 undef = .int .i64 (t : Nat) := hf.evalFree (by kernel_rfl)
          go_simp
          exact hK _ _ rfl (hW.upd 3 _ (by decide) (FsL.no (by decide) (by decide) (by decide)))
        · intro r a w' hf hg hW hr hd K hK
          refine wpOp_of rfl rfl ?_
          have e0 : a.tmps.getD 5 undef = .int .i64 (n : Nat) := hf.evalFree (by kernel_rfl)
          go_simp
          exact hK _ _ rfl (hW.upd 4 _ (by decide) (FsL.no (by decide) (by decide) (by decide)))
        · intro r a w' hf hg hW hr hd K hK
          refine wpOp_of rfl rfl ?_
          refine hf.depE hg hd 3 44 (by kernel_rfl) fun u0 e0 g0 h0 => ?_
          replace g0 : u0 = .int .i64 (t : Nat) := g0
          subst g0
          refine hf.depE hg hd 4 45 (by kernel_rfl) fun u1 e1 g1 h1 => ?_
          replace g1 : u1 = .int .i64 (n : Nat) := g1
          subst g1
          go_simp
          with_reducible refine (numbers_any t n (by omega) (by omega) _).mono ?_
          rintro e w'' ⟨A5, c5, rfl, ho, k⟩
          exact hK _ _ trivial ((hW.call (FsL.kp HGW.out) k).upd 5 _ (by decide) ⟨fun _ => ⟨A5, c5, rfl, own_mono ho hW.k1.size⟩, fun e => absurd e (by decide), fun e => absurd e (by decide)⟩)
        · intro r a w' hf hg hW hr hd K hK
          refine wpOp_of rfl rfl ?_
          have e0 : a.tmps.getD 8 undef = .int .i64 (t : Nat) := hf.evalFree (by kernel_rfl)
          go_simp
          exact hK _ _ rfl (hW.upd 6 _ (by decide) (FsL.no (by decide) (by decide) (by decide)))
        · intro r a w' hf hg hW hr hd K hK
          refine wpOp_of rfl rfl ?_
          have e0 : a.tmps.getD 5 undef = .int .i64 (n : Nat) := hf.evalFree (by kernel_rfl)
          go_simp
          exact hK _ _ rfl (hW.upd 7 _ (by decide) (FsL.no (by decide) (by decide) (by decide)))
        · intro r a w' hf hg hW hr hd K hK
          refine wpOp_of rfl rfl ?_
          refine hf.depE hg hd 7 48 (by kernel_rfl) fun u0 e0 g0 h0 => ?_
          replace g0 : u0 = .int .i64 (n : Nat) := g0
          subst g0
          go_simp
          exact hK _ _ rfl (hW.upd 8 _ (by decide) (FsL.no (by decide) (by decide) (by decide)))
        · intro r a w' hf hg hW hr hd K hK
          refine wpOp_of rfl rfl ?_
          refine hf.depE hg hd 6 47 (by kernel_rfl) fun u0 e0 g0 h0 => ?_
          replace g0 : u0 = .int .i64 (t : Nat) := g0
          subst g0
          refine hf.depE hg hd 8 49 (by kernel_rfl) fun u1 e1 g1 h1 => ?_
          replace g1 : u1 = .int .u64 (n : Nat) := g1
          subst g1
          go_simp
          exact hK _ _ rfl (hW.upd 9 _ (by decide) (FsL.no (by decide) (by decide) (by decide)))
        · intro r a w' hf hg hW hr hd K hK
          refine wpOp_of rfl rfl ?_
          have e0 : a.tmps.getD 6 undef = .int .i64 (KK : Nat) := hf.evalFree (by kernel_rfl)
          go_simp
          exact hK _ _ rfl (hW.upd 10 _ (by decide) (FsL.no (by decide) (by decide) (by decide)))
        · intro r a w' hf hg hW hr hd K hK
          refine wpOp_of rfl rfl ?_
          refine hf.depE hg hd 9 50 (by kernel_rfl) fun u0 e0 g0 h0 => ?_
          replace g0 : u0 = .int .i64 (tk : Nat) := g0
          subst g0
          refine hf.depE hg hd 10 51 (by kernel_rfl) fun u1 e1 g1 h1 => ?_
          replace g1 : u1 = .int .i64 (KK : Nat) := g1
          subst g1
          go_simp
          with_reducible refine (numbers_any tk KK HTK.out (by omega) _).mono ?_
          rintro e w'' ⟨A5, c5, rfl, ho, k⟩
          exact hK _ _ trivial ((hW.call (FsL.kp HGW.out) k).upd 11 _ (by decide) ⟨fun e => absurd e (by decide), fun _ => ⟨A5, c5, rfl, own_mono ho hW.k1.size⟩, fun e => absurd e (by decide)⟩)
        · intro r a w' hf hg hW hr hd K hK
          refine wpOp_of rfl rfl ?_
          refine hf.depE hg hd 5 46 (by kernel_rfl) fun u0 e0 g0 h0 => ?_
          have e0' := get_of_getD e0
          refine hf.depE hg hd 11 52 (by kernel_rfl) fun u1 e1 g1 h1 => ?_
          have e1' := get_of_getD e1
          have hN := cvU_of ((hW.hv 5 u0 h0).1 rfl) ((hW.hv 11 u1 h1).2.1 rfl)
          obtain ⟨A5, c5, hu5, _⟩ := (hW.hv 5 u0 h0).1 rfl
          subst hu5
          obtain ⟨A6, c6, hu6, _⟩ := (hW.hv 11 u1 h1).2.1 rfl
          subst hu6
          go_simp
          exact hK _ _ trivial (hW.upd 12 _ (by decide) ⟨fun e => absurd e (by decide), fun e => absurd e (by decide), fun _ => hN⟩)
        · intro r a w' hf hg hW hr hd K hK
          refine wpOp_of rfl rfl ?_
          refine hf.depE hg hd 2 43 (by kernel_rfl) fun u0 e0 g0 h0 => ?_
          replace g0 : u0 = .agg #[.int .i64 N.n, .slice A N.tr.length ca, .slice B N.ch.length cb, .slice (some ⟨bC, oC, none⟩) n cc] := g0
          subst g0
          refine hf.depE hg hd 12 53 (by kernel_rfl) fun u1 e1 g1 h1 => ?_
          obtain ⟨y, hu, hyc, hyo⟩ := (hW.hv 12 u1 h1).2.2 rfl
          subst hu
          have SX := ST.out y w' (HKW0.out _ hW.k1) hyo.is (by rw [hyc]; exact HCT.out)
          rw [hyc, HQT.out] at SX
          go_simp
          with_reducible refine SX.mono ?_
          rintro e w'' ⟨rfl, k⟩
          exact hK _ _ rfl ((hW.call (FsL.kp HGW.out) k).upd 13 _ (by decide) (FsL.no (by decide) (by decide) (by decide)))
        · intro r a w' hf hg hW hr hd K hK
          refine wpOp_of rfl rfl ?_
          refine hf.depE hg hd 0 41 (by kernel_rfl) fun u0 e0 g0 h0 => ?_
          replace g0 : u0 = .slice (some ⟨gi, 0, none⟩) T T := g0
          subst g0
          refine hf.depE hg hd 1 42 (by kernel_rfl) fun u1 e1 g1 h1 => ?_
          replace g1 : u1 = .int .i64 (t : Nat) := g1
          subst g1
          go_simp
          exact hK _ _ rfl (hW.upd 14 _ (by decide) (FsL.no (by decide) (by decide) (by decide)))
        · intro r a w' hf hg hW hr hd K hK
          refine wpOp_of rfl rfl ?_
          refine hf.depE hg hd 14 55 (by kernel_rfl) fun u0 e0 g0 h0 => ?_
          replace g0 : u0 = .pointer (some ⟨gi, t, none⟩) := g0
          subst g0
          refine hf.depE hg hd 13 54 (by kernel_rfl) fun u1 e1 g1 h1 => ?_
          replace g1 : u1 = .bool (q t) := g1
          subst g1
          have zc := (hW.kp hr).cell HRC.out id
          have zf : w'.frozen? ⟨gi, t, none⟩ = false := by have h := (hW.kp hr).heap HIN.out id; simp [World.frozen?, h]
          go_simp
          exact hK undef _ trivial (hW.store (FsL.kp HGW.out) hr undef (FsL.no (by decide) (by decide) (by decide)))
      intro r' w9 hg hW hr'
      simp only [List.length_cons, List.length_nil, Nat.reduceAdd, List.range_succ, List.range_zero, List.nil_append, List.cons_append, List.map_cons, List.map_nil, putAll, Act.put, List.setIfInBounds_toArray, List.set_cons_succ, List.set_cons_zero]
      have hrow := hW.row (hr' 15 (by decide)) HIN.out
      have hk1 := hW.k1
      clear hg hW hr'
      have HIN2 := Lib.hid (show w9.heap[gi]? = some (.cells (isR T q (t + 1)).toArray 4 (0, 0)) from by rw [← isR_set]; exact hrow)
      have HKP2 := Lib.hid (HKP.out.tr hk1)
      clear hrow hk1 p0 p1 p2 p3
      go_wp2_with fail
      go_roundw
      case rel => exact ⟨t + 1, by omega, by go_num, HIN2.out, HKP2.out⟩
      case measure => simp [intOf]; omega
    · obtain rfl : T = t := by omega
      obtain ⟨w3, rfl⟩ : ∃ w3, w3 = wr := ⟨_, rfl⟩
      have HGW := Lib.hid hgw
      obtain ⟨p, hp⟩ : ∃ p, p = starC N l := ⟨_, rfl⟩
      have HP := Lib.hid hp
      have HQP := Lib.hid (show ∀ i, q i = p (cbOf n KK i) from fun i => by rw [HQ.out, hp])
      have HUP2 := Lib.hid (show UpS n KK p by have h := HUP.out; rwa [HSK.out.1, HSK.out.2, ← hp] at h)
      clear hp hgw
      go_wp2_with fail
      go_loopw [9, 10] (fun vo vi wr => ∃ (s : Nat) (L : List Cv) (D : Option Addr) (c : Nat), s ≤ T ∧ vi = .int .i64 (s : Nat) ∧ vo = .slice D L.length c ∧ RefO n KK p s (L.map Cv.c) ∧ wr.ownsRow w3.heap.size 30 2 (.slice D L.length c) L.length (L.flatMap Cv.cells) ∧ (∀ x ∈ L, CvO wr w3.heap.size x) ∧ L.length ≤ s ∧ Kp No w3 wr) (fun _ vi _ => T - (intOf vi).toNat)
      case atStart => exact ⟨0, [], none, 0, by omega, rfl, rfl, RefO.zero _ _ _, World.ownsRow_nil _ _ _ _, fun x hx => (by cases hx), by simp, Kp.refl _ _⟩
      case round =>
        obtain ⟨s, L, D, c, hs, rfl, rfl, href, hown, hall, hlen, hkp⟩ := hrel
        obtain ⟨wo, rfl⟩ : ∃ wo, wo = wr := ⟨_, rfl⟩
        obtain ⟨m, hm⟩ : ∃ m, m = L.length := ⟨_, rfl⟩
        rw [← hm] at hown hlen ⊢
        have HM := Lib.hid hm
        have HREF := Lib.hid href
        have HOWN := Lib.hid hown
        have HALL := Lib.hid hall
        have HKP3 := Lib.hid hkp
        have HROW := Lib.hid (hkp.heap HIN.out id)
        clear hm href hown hall hkp p0 p1 p2 p3
        by_cases hlt2 : s < T
        · have c0 : wo.cell? ⟨gi, s, none⟩ = some (.bool (q s)) := by
            rw [cell_of_row _ _ _ _ _ _ HROW.out]
            have h := isR_at hlt2 q T
            rw [decide_eq_true hlt2, Bool.true_and] at h
            simpa using h
          have hsT : (s : Int) < (T : Int) := by omega
          have hs20 : s < 2 ^ 20 := by omega
          clear hlt
          go_wp2_with fail
          go_loopw [11, 12] (fun vl vi wr => ∃ i : Nat, i ≤ nk ∧ vi = .int .i64 (i : Nat) ∧ vl = .bool (refT n KK p s i) ∧ Kp No wo wr) (fun _ vi _ => nk - (intOf vi).toNat)
          case atStart => exact ⟨0, by omega, rfl, by rw [refT_zero, ← HQP.out], Kp.refl _ _⟩
          case round =>
            obtain ⟨i, hi, rfl, rfl, hki⟩ := hrel
            have HKI := Lib.hid hki
            have HROW2 := Lib.hid (hki.heap HROW.out id)
            clear hki c0
            have hi10 : i ≤ 10 := by have := HNK.out; omega
            by_cases hli : i < nk
            · have d1 : decide ((i : Int) < (n : Int) + (KK : Int)) = true := decide_eq_true (by have := HNK.out; omega)
              have hbit := bit_is s i hs20
              have HBE := Lib.hid (bit_eq s i)
              have HRT := Lib.hid (refT_succ n KK p s i)
              cases hbv : bitR s i with
              | false =>
                have HB0 := Lib.hid (show (s : Int) / 2 ^ i % 2 = 0 by
                  have h := HBE.out
                  rw [hbv, beq_eq_false_iff_ne] at h
                  have := Int.emod_two_eq ((s : Int) / 2 ^ i)
                  omega)
                rw [HB0.out] at hbit
                have HE := Lib.hid (show refT n KK p s (i + 1) = refT n KK p s i by
                  rw [HRT.out]
                  unfold bitR at hbv
                  rw [hbv]
                  simp)
                clear hbv
                go_wp2_with fail
                go_roundw
                case rel => exact ⟨i + 1, by omega, by go_num, by rw [HE.out], HKI.out⟩
                case measure => simp [intOf]; omega
              | true =>
                have HB1 := Lib.hid (show (s : Int) / 2 ^ i % 2 = 1 by
                  have h := HBE.out
                  rw [hbv, beq_iff_eq] at h
                  exact h)
                rw [HB1.out] at hbit
                unfold bitR at hbv
                obtain ⟨dd, hdd⟩ : ∃ dd, dd = 2 ^ i := ⟨_, rfl⟩
                have hds : dd ≤ s := by rw [hdd]; exact Nat.ge_two_pow_of_testBit hbv
                obtain ⟨sd, hsd⟩ : ∃ sd, sd = s - dd := ⟨_, rfl⟩
                have hsdT : sd < T := by omega
                have hsdT' : (sd : Int) < (T : Int) := by omega
                have HP2 := Lib.hid (show wrap64 ((2 : Int) ^ i) = (dd : Int) by
                  have : ((2 : Int) ^ i) = (dd : Int) := by rw [hdd]; simp
                  rw [this]
                  exact IntWalk.wrap64_in _ (by omega))
                have HSUB := Lib.hid (show wrap64 ((s : Int) - (dd : Int)) = (sd : Int) by rw [IntWalk.wrap64_in _ (by omega)]; omega)
                have c1 : wr.cell? ⟨gi, sd, none⟩ = some (.bool (q sd)) := by
                  rw [cell_of_row _ _ _ _ _ _ HROW2.out]
                  have h := isR_at hsdT q T
                  rw [decide_eq_true hsdT, Bool.true_and] at h
                  simpa using h
                have HE := Lib.hid (show refT n KK p s (i + 1) = (refT n KK p s i && !(q sd)) by
                  rw [HRT.out, hbv, Bool.true_and, ← hdd, ← hsd, ← HQP.out])
                clear hbv hdd hsd hds
                have hp2 := HP2.out
                have hsub := HSUB.out
                cases hqs : q sd with
                | true =>
                  rw [hqs] at c1 HE
                  clear hqs
                  go_wp2_with fail
                  clear hp2 hsub
                  go_roundw
                  case rel => exact ⟨i + 1, by omega, by go_num, by rw [HE.out]; simp, HKI.out⟩
                  case measure => simp [intOf]; omega
                | false =>
                  rw [hqs] at c1 HE
                  clear hqs
                  go_wp2_with fail
                  clear hp2 hsub
                  go_roundw
                  case rel => exact ⟨i + 1, by omega, by go_num, by rw [HE.out]; simp, HKI.out⟩
                  case measure => simp [intOf]; omega
            · obtain rfl : i = nk := by omega
              have d1 : decide ((i : Int) < (n : Int) + (KK : Int)) = false := decide_eq_false (by have := HNK.out; omega)
              obtain ⟨lq, hlq⟩ : ∃ lq, lq = refL n KK p s := ⟨_, rfl⟩
              have hrt : refT n KK p s i = lq := by rw [hlq, HNK.out]; rfl
              rw [hrt]
              have HLQ := Lib.hid hlq
              have HKW3 := Lib.hid (HKP3.out.tr HKI.out)
              clear hrt hlq
              cases lq with
              | false =>
                go_wp2_with fail
                go_roundw
                case rel => exact ⟨s + 1, L, D, c, by omega, by go_num, by rw [HM.out], HREF.out.skip HLQ.out.symm, by rw [← HM.out]; exact own_kp HOWN.out HKI.out fun _ _ e => e, fun x hx => (HALL.out x hx).no HKI.out, by rw [← HM.out]; omega, HKW3.out⟩
                case measure => simp [intOf]; omega
              | true =>
                obtain ⟨sk, hsk⟩ : ∃ sk, sk = s >>> n := ⟨_, rfl⟩
                have esh : (s : Int) / 2 ^ n = (sk : Int) := by rw [hsk, Nat.shiftRight_eq_div_pow]; simp
                have HSK20 := Lib.hid (show sk < 2 ^ 20 by rw [hsk, Nat.shiftRight_eq_div_pow]; exact Nat.lt_of_le_of_lt (Nat.div_le_self _ _) hs20)
                have HCE := Lib.hid (show cbOf n KK s = ⟨numB s n, numB sk KK⟩ by rw [hsk]; rfl)
                have HSN := Lib.hid (show s < 2 ^ (n + KK) by rw [← HNK.out, ← HT.out]; exact hlt2)
                clear hsk
                go_wp2_with fail
                with_reducible refine (numbers_any s n hs20 (by omega) wr).mono ?_
                rintro e w5 ⟨D1, d1, rfl, ho1, k5⟩
                have hle1 := numB_len s n
                have hle2 := numB_len sk KK
                obtain ⟨l1, hl1e⟩ : ∃ l1, l1 = (numB s n).length := ⟨_, rfl⟩
                obtain ⟨l2, hl2e⟩ : ∃ l2, l2 = (numB sk KK).length := ⟨_, rfl⟩
                rw [← hl1e] at ho1 hle1 ⊢
                rw [← hl2e] at hle2
                have HL2E := Lib.hid hl2e
                clear hl1e hl2e
                have HO1 := Lib.hid ho1
                have K5 := Lib.hid (HKI.out.tr k5)
                clear ho1 k5
                go_wp2_with fail
                with_reducible refine (numbers_any sk KK HSK20.out (by omega) w5).mono ?_
                rintro e w6 ⟨D2, d2, rfl, ho2, k6⟩
                rw [← HL2E.out] at ho2 ⊢
                have hwo5 := K5.out.size
                have hw3o := HKP3.out.size
                have hwr := HKI.out.size
                have HXO6 := Lib.hid (show CvO w6 w3.heap.size ⟨D1, l1, d1, D2, l2, d2, ⟨numB s n, numB sk KK⟩⟩ from ⟨own_mono (own_kp HO1.out k6 fun _ _ e => e) (by omega), own_mono ho2 (by omega)⟩)
                have K6 := Lib.hid (K5.out.tr k6)
                clear ho2 k6 hwo5 hw3o hwr
                go_wp2_with fail
                obtain ⟨w7, hw7⟩ : ∃ w7, w6.alloc (.cells #[.slice D1 l1 d1, .slice D2 l2 d2] 30) = w7 := ⟨_, rfl⟩
                have hk7 : Kp No w6 w7 := by rw [← hw7]; exact Kp.alloc _ _ _
                have h7 : w7.heap[w6.heap.size]? = some (.cells #[.slice D1 l1 d1, .slice D2 l2 d2] 30 (0, 0)) := by rw [← hw7]; exact heap_alloc_new w6 _
                rw [hw7]
                obtain ⟨gc, hgc⟩ : ∃ gc, gc = w6.heap.size := ⟨_, rfl⟩
                rw [← hgc] at h7 ⊢
                have H7 := Lib.hid h7
                have K7 := Lib.hid (K6.out.tr hk7)
                have HXO7 := Lib.hid (HXO6.out.no hk7)
                have HKW7 := Lib.hid (HKP3.out.tr K7.out)
                have HOWN7 := Lib.hid (own_kp HOWN.out K7.out fun _ _ e => e)
                clear hw7 hk7 h7 hgc
                go_loopw [14] (fun va wr => ∃ pa : Nat, pa ≤ m ∧ va = .int .i64 (pa : Nat) ∧ (∀ i, pa ≤ i → i < L.length → cmpC (cbOf n KK s) ((L.map Cv.c).getD i default) < 0) ∧ Kp No w7 wr) (fun va _ => (intOf va).toNat)
                case atStart => exact ⟨m, by omega, rfl, fun i h1 h2 => absurd h2 (by rw [← HM.out]; omega), Kp.refl _ _⟩
                case round =>
                  obtain ⟨pa, ha, rfl, hhi, hk8⟩ := hrel
                  have HHI := Lib.hid hhi
                  have HK8 := Lib.hid hk8
                  have H8 := Lib.hid (hk8.heap H7.out id)
                  have HOWN8 := Lib.hid (own_kp HOWN7.out hk8 fun _ _ e => e)
                  have HXO8 := Lib.hid (HXO7.out.no hk8)
                  have HKW8 := Lib.hid (HKW7.out.tr hk8)
                  have HALL8 := Lib.hid (fun x (hx : x ∈ L) => (HALL.out x hx).no (K7.out.tr hk8))
                  obtain ⟨x0, x1, _, _⟩ := cell_head H8.out
                  clear hhi hk8
                  by_cases ha0 : pa = 0
                  · have dk : decide ((0 : Int) < (pa : Int)) = false := decide_eq_false (by omega)
                    have dk' : decide (0 < pa) = false := decide_eq_false (by omega)
                    have HLO := Lib.hid (show pa = 0 ∨ ¬ cmpC (cbOf n KK s) ((L.map Cv.c).getD (pa - 1) default) < 0 from .inl ha0)
                    clear ha0
                    go_wp2_with fail
                    have FS : Stab (fun ix wz u => True) := fun ix u wz wz' kz h => trivial
                    replace FS := Lib.hid FS
                    refine wp_region_each (fun ix uR => match ix with | 0 => uR = .int .i64 (pa : Nat) | 1 => uR = .bool false | 2 => uR = .bool false | 3 => uR = undef | 4 => uR = undef | 5 => uR = undef | 6 => uR = undef | 7 => uR = undef | 8 => uR = undef | 9 => uR = undef | 10 => uR = .bool false | _ => True) (HvW wr (fun ix wz u => True)) (by kernel_rfl) (by kernel_rfl) (by kernel_rfl) ?_ ?_ ?_
                    · exact HvW.start _ _
                    · refine ⟨?_, ?_, ?_, ?_, ?_, ?_, ?_, ?_, ?_, ?_, ?_, trivial⟩
                      · intro r a w' hf hg hW hr hd K hK
                        refine wpOp_of rfl rfl ?_
                        have e0 : a.tmps.getD 14 undef = .int .i64 (pa : Nat) := hf.evalFree (by kernel_rfl)
                        go_simp
                        exact hK _ _ rfl (hW.upd 0 _ trivial)
                      · intro r a w' hf hg hW hr hd K hK
                        refine wpOp_of rfl rfl ?_
                        refine hf.depE hg hd 0 102 (by kernel_rfl) fun u0 e0 g0 h0 => ?_
                        replace g0 : u0 = .int .i64 (pa : Nat) := g0
                        subst g0
                        go_simp
                        exact hK _ _ rfl (hW.upd 1 _ trivial)
                      · intro r a w' hf hg hW hr hd K hK
                        refine wpOp_of rfl rfl ?_
                        refine hf.depE hg hd 1 103 (by kernel_rfl) fun u0 e0 g0 h0 => ?_
                        replace g0 : u0 = .bool false := g0
                        subst g0
                        go_simp
                        exact hK _ _ rfl (hW.upd 2 _ trivial)
                      · intro r a w' hf hg hW hr hd K hK
                        refine hf.depE hg hd 2 104 (by kernel_rfl) fun uG eG gG _ => ?_
                        replace gG : uG = .bool false := gG
                        subst gG
                        refine wpOp_skip rfl rfl rfl rfl eG (by decide) ?_
                        exact hK _ _ rfl (hW.upd 3 _ trivial)
                      · intro r a w' hf hg hW hr hd K hK
                        refine hf.depE hg hd 2 104 (by kernel_rfl) fun uG eG gG _ => ?_
                        replace gG : uG = .bool false := gG
                        subst gG
                        refine wpOp_skip rfl rfl rfl rfl eG (by decide) ?_
                        exact hK _ _ rfl (hW.upd 4 _ trivial)
                      · intro r a w' hf hg hW hr hd K hK
                        refine hf.depE hg hd 2 104 (by kernel_rfl) fun uG eG gG _ => ?_
                        replace gG : uG = .bool false := gG
                        subst gG
                        refine wpOp_skip rfl rfl rfl rfl eG (by decide) ?_
                        exact hK _ _ rfl (hW.upd 5 _ trivial)
                      · intro r a w' hf hg hW hr hd K hK
                        refine hf.depE hg hd 2 104 (by kernel_rfl) fun uG eG gG _ => ?_
                        replace gG : uG = .bool false := gG
                        subst gG
                        refine wpOp_skip rfl rfl rfl rfl eG (by decide) ?_
                        exact hK _ _ rfl (hW.upd 6 _ trivial)
                      · intro r a w' hf hg hW hr hd K hK
                        refine hf.depE hg hd 2 104 (by kernel_rfl) fun uG eG gG _ => ?_
                        replace gG : uG = .bool false := gG
                        subst gG
                        refine wpOp_skip rfl rfl rfl rfl eG (by decide) ?_
                        exact hK _ _ rfl (hW.upd 7 _ trivial)
                      · intro r a w' hf hg hW hr hd K hK
                        refine hf.depE hg hd 2 104 (by kernel_rfl) fun uG eG gG _ => ?_
                        replace gG : uG = .bool false := gG
                        subst gG
                        refine wpOp_skip rfl rfl rfl rfl eG (by decide) ?_
                        exact hK _ _ rfl (hW.upd 8 _ trivial)
                      · intro r a w' hf hg hW hr hd K hK
                        refine hf.depE hg hd 2 104 (by kernel_rfl) fun uG eG gG _ => ?_
                        replace gG : uG = .bool false := gG
                        subst gG
                        refine wpOp_skip rfl rfl rfl rfl eG (by decide) ?_
                        exact hK _ _ rfl (hW.upd 9 _ trivial)
                      · intro r a w' hf hg hW hr hd K hK
                        refine wpOp_of rfl rfl ?_
                        refine hf.depE hg hd 2 104 (by kernel_rfl) fun u0 e0 g0 h0 => ?_
                        replace g0 : u0 = .bool false := g0
                        subst g0
                        have e0' := get_of_getD e0
                        refine hf.depE hg hd 9 111 (by kernel_rfl) fun u1 e1 g1 h1 => ?_
                        replace g1 : u1 = undef := g1
                        subst g1
                        have e1' := get_of_getD e1
                        go_simp
                        exact hK _ _ rfl (hW.upd 10 _ trivial)
                    intro r' w8 hg hW hr'
                    have hkN := hW.kp
                    obtain ⟨q10, hq10⟩ : ∃ u, r' 10 = some u := Option.ne_none_iff_exists'.1 (hr' 10 (by decide))
                    have hk10 := hg 10 q10 hq10
                    replace hk10 : q10 = .bool false := hk10
                    subst hk10
                    simp only [List.length_cons, List.length_nil, Nat.reduceAdd, List.range_succ, List.range_zero, List.nil_append, List.cons_append, List.map_cons, List.map_nil, putAll, Act.put, List.setIfInBounds_toArray, List.set_cons_succ, List.set_cons_zero, hq10, Option.getD_some]
                    clear hg hW hr' FS hq10
                    have K8 := Lib.hid hkN
                    have H9 := Lib.hid (hkN.heap H8.out id)
                    have HK8b := Lib.hid (HK8.out.tr hkN)
                    have HOWN9 := Lib.hid (own_kp HOWN8.out hkN fun _ _ e => e)
                    have HXO9 := Lib.hid (HXO8.out.no hkN)
                    have HKW9 := Lib.hid (HKW8.out.tr hkN)
                    have HALL9 := Lib.hid (fun x (hx : x ∈ L) => (HALL8.out x hx).no hkN)
                    clear hkN x0 x1 dk dk'
                    clear HK8 HOWN8 HXO8 HKW8 HALL8 H8
                    obtain ⟨wr, rfl⟩ : ∃ wr, wr = w8 := ⟨_, rfl⟩
                    have HK8 := HK8b
                    have HOWN8 := HOWN9
                    have HXO8 := HXO9
                    have HKW8 := HKW9
                    have HALL8 := HALL9
                    have H8 := H9
                    clear HK8b HOWN9 HXO9 HKW9 HALL9 H9
                    obtain ⟨x0, x1, _, _⟩ := cell_head H8.out
                    obtain ⟨i0, hi0, hz0, hz1, hz2⟩ := info_parts infoC
                    have hm10 : m ≤ 1024 := by omega
                    cases hD : D with
                    | none =>
                      subst hD
                      obtain ⟨rfl, rfl⟩ := own_none HOWN8.out
                      obtain rfl : pa = 0 := by omega
                      go_wp2_with fail
                      have HXL := Lib.hid (show ((L.take 0).flatMap Cv.cells).length = 0 * 2 by rw [flat_len cv_len, List.length_take, ← HM.out, Nat.min_eq_left (Nat.zero_le _)])
                      have HON := Lib.hid (show ∀ u ∈ [Value.slice D1 l1 d1, Value.slice D2 l2 d2] ++ (L.drop 0).flatMap Cv.cells, u.oneCell' = true from fun u hu => by
                        rcases List.mem_append.1 hu with h | h
                        · simp at h; rcases h with rfl | rfl <;> rfl
                        · exact cvs_one _ u h)
                      have HYL := Lib.hid (show ((L.drop 0).flatMap Cv.cells).length = 0 * 2 by rw [flat_len cv_len, List.length_drop, ← HM.out])
                      have HYN := Lib.hid (show ∀ W, Kp No wr W → ∀ ad, (none : Option Addr) = some ad → ∀ j u, ((L.drop 0).flatMap Cv.cells)[j]? = some u → W.cell? (ad.add j) = some u from fun W _ ad h => by cases h)
                      have HXN := Lib.hid (show ∀ W, Kp No wr W → ∀ ad, (none : Option Addr) = some ad → ∀ j u, ((L.take 0).flatMap Cv.cells)[j]? = some u → W.cell? (ad.add j) = some u from fun W _ ad h => by cases h)
                      have HLEN := Lib.hid (show (L.take 0 ++ (⟨D1, l1, d1, D2, l2, d2, ⟨numB s n, numB sk KK⟩⟩ : Cv) :: L.drop 0).length = 1 by rw [List.length_append, List.length_cons, List.length_take, List.length_drop, ← HM.out]; omega)
                      refine wp_region_each (fun ix uR => match ix with | 0 => uR = .slice none 0 0 | 1 => uR = .int .i64 0 | 2 => uR = .int .i64 0 | 3 => uR = .slice none 0 0 | 4 => uR = .agg #[.slice D1 l1 d1, .slice D2 l2 d2] | 6 => uR = .slice none 0 0 | 7 => uR = .int .i64 0 | 8 => uR = .slice none 0 0 | _ => True) (fun r w' => InW wr ((L.take 0).flatMap Cv.cells) [.slice D1 l1 d1, .slice D2 l2 d2] ((L.drop 0).flatMap Cv.cells) 1 1 r w') (by kernel_rfl) (by kernel_rfl) (by kernel_rfl) ?_ ?_ ?_
                      · exact InW.start
                      · refine ⟨?_, ?_, ?_, ?_, ?_, ?_, ?_, ?_, ?_, ?_, ?_, ?_, trivial⟩
                        · intro r a w' hf hg hW hr hd K hK
                          refine wpOp_of rfl rfl ?_
                          have e0 : a.tmps.getD 9 undef = .slice none 0 0 := hf.evalYet (hW.yet0 hr) (by kernel_rfl)
                          go_simp
                          exact hK _ _ rfl (hW.upd 0 _ (by decide) (by decide) (by decide) (by decide) (fun e => absurd e (by decide)) (fun e => absurd e (by decide)))
                        · intro r a w' hf hg hW hr hd K hK
                          refine wpOp_of rfl rfl ?_
                          have e0 : a.tmps.getD 14 undef = .int .i64 0 := hf.evalFree (by kernel_rfl)
                          go_simp
                          exact hK _ _ rfl (hW.upd 1 _ (by decide) (by decide) (by decide) (by decide) (fun e => absurd e (by decide)) (fun e => absurd e (by decide)))
                        · intro r a w' hf hg hW hr hd K hK
                          refine wpOp_of rfl rfl ?_
                          have e0 : a.tmps.getD 14 undef = .int .i64 0 := hf.evalFree (by kernel_rfl)
                          go_simp
                          exact hK _ _ rfl (hW.upd 2 _ (by decide) (by decide) (by decide) (by decide) (fun e => absurd e (by decide)) (fun e => absurd e (by decide)))
                        · intro r a w' hf hg hW hr hd K hK
                          refine wpOp_of rfl rfl ?_
                          refine hf.depE hg hd 0 115 (by kernel_rfl) fun u0 e0 g0 h0 => ?_
                          replace g0 : u0 = .slice none 0 0 := g0
                          subst g0
                          refine hf.depE hg hd 1 116 (by kernel_rfl) fun u1 e1 g1 h1 => ?_
                          replace g1 : u1 = .int .i64 0 := g1
                          subst g1
                          refine hf.depE hg hd 2 117 (by kernel_rfl) fun u2 e2 g2 h2 => ?_
                          replace g2 : u2 = .int .i64 0 := g2
                          subst g2
                          go_simp
                          exact hK _ _ rfl (hW.upd 3 _ (by decide) (by decide) (by decide) (by decide) (fun e => absurd e (by decide)) (fun _ => by rw [h0]; simp))
                        · intro r a w' hf hg hW hr hd K hK
                          refine wpOp_of rfl rfl ?_
                          have e0 : a.tmps.getD 13 undef = .pointer (some ⟨gc, 0, none⟩) := hf.evalFree (by kernel_rfl)
                          have z0 := hW.kp.cell x0 id
                          have z1 := hW.kp.cell x1 id
                          go_simp
                          exact hK _ _ rfl (hW.upd 4 _ (by decide) (by decide) (by decide) (by decide) (fun e => absurd e (by decide)) (fun e => absurd e (by decide)))
                        · intro r a w' hf hg hW hr hd K hK
                          refine wpOp_of rfl rfl ?_
                          refine hf.depE hg hd 4 119 (by kernel_rfl) fun u0 e0 g0 h0 => ?_
                          replace g0 : u0 = .agg #[.slice D1 l1 d1, .slice D2 l2 d2] := g0
                          subst g0
                          have e0' := get_of_getD e0
                          go_simp
                          exact hK _ _ trivial (hW.put5 hr rfl rfl)
                        · intro r a w' hf hg hW hr hd K hK
                          refine wpOp_of rfl rfl ?_
                          have e0 : a.tmps.getD 9 undef = .slice none 0 0 := hf.evalYet (hW.yet6 hr) (by kernel_rfl)
                          go_simp
                          exact hK _ _ rfl (hW.upd 6 _ (by decide) (by decide) (by decide) (by decide) (fun e => absurd e (by decide)) (fun e => absurd e (by decide)))
                        · intro r a w' hf hg hW hr hd K hK
                          refine wpOp_of rfl rfl ?_
                          have e0 : a.tmps.getD 14 undef = .int .i64 0 := hf.evalFree (by kernel_rfl)
                          go_simp
                          exact hK _ _ rfl (hW.upd 7 _ (by decide) (by decide) (by decide) (by decide) (fun e => absurd e (by decide)) (fun e => absurd e (by decide)))
                        · intro r a w' hf hg hW hr hd K hK
                          refine wpOp_of rfl rfl ?_
                          refine hf.depE hg hd 6 121 (by kernel_rfl) fun u0 e0 g0 h0 => ?_
                          replace g0 : u0 = .slice none 0 0 := g0
                          subst g0
                          refine hf.depE hg hd 7 122 (by kernel_rfl) fun u1 e1 g1 h1 => ?_
                          replace g1 : u1 = .int .i64 0 := g1
                          subst g1
                          go_simp
                          exact hK _ _ rfl (hW.upd 8 _ (by decide) (by decide) (by decide) (by decide) (fun _ => by rw [h0]; simp) (fun e => absurd e (by decide)))
                        · intro r a w' hf hg hW hr hd K hK
                          refine wpOp_of rfl rfl ?_
                          refine hf.depE hg hd 5 120 (by kernel_rfl) fun u0 e0 g0 h0 => ?_
                          refine hf.depE hg hd 8 123 (by kernel_rfl) fun u1 e1 g1 h1 => ?_
                          replace g1 : u1 = .slice none 0 0 := g1
                          subst g1
                          have ho := hW.c5 u0 h0 hr
                          refine wpo_append_nil (.tmp 120) (.tmp 123) 46 rfl wr.heap.size 30 i0 _ 2 48 Tryz.underlying46 hi0 hz0 hz1 hz2 rfl (by decide) u0 1 [.slice D1 l1 d1, .slice D2 l2 d2] e0 ho none 0 0 ((L.drop 0).flatMap Cv.cells) e1 HYL.out (by simp) (HYN.out _ hW.kp) (cvs_one _) (by unfold maxLen; omega) (by omega) hW.kp.size (fun v' w'' ho2 hgr _ => ?_)
                          exact hK _ _ trivial (hW.put9 hr (by rw [h0]; simp) (by rw [h1]; simp) ho ho2 hgr)
                        · intro r a w' hf hg hW hr hd K hK
                          refine wpOp_of rfl rfl ?_
                          refine hf.depE hg hd 3 118 (by kernel_rfl) fun u0 e0 g0 h0 => ?_
                          replace g0 : u0 = .slice none 0 0 := g0
                          subst g0
                          refine hf.depE hg hd 9 124 (by kernel_rfl) fun u1 e1 g1 h1 => ?_
                          have ho9 := hW.c9 u1 h1 hr
                          obtain ⟨A9, cp9, hu9, _, _, hg9⟩ := own_form ho9
                          obtain ⟨g9, hg9⟩ := hg9 (by omega)
                          subst hg9
                          subst hu9
                          refine wpo_append_full (.tmp 118) (.tmp 124) 46 rfl 30 i0 _ 2 48 Tryz.underlying46 hi0 hz0 hz1 hz2 rfl (by decide) none 0 ((L.take 0).flatMap Cv.cells) e0 HXL.out (HXN.out _ hW.kp) (fun _ => by omega) ⟨g9, 0, none⟩ 1 cp9 ([.slice D1 l1 d1, .slice D2 l2 d2] ++ (L.drop 0).flatMap Cv.cells) e1 ho9.1 (fun j u hj => by rw [add_at, Nat.zero_add]; exact own_cell ho9 hj) HON.out (by omega) (by unfold maxLen; omega) (by omega) (fun v' w'' ho2 k2 => ?_)
                          exact hK _ _ trivial (hW.put10 hr (by rw [h1]; simp) (by rw [h0]; simp) (own_mono ho2 hW.kp.size) k2)
                        · intro r a w' hf hg hW hr hd K hK
                          refine wpOp_of rfl rfl ?_
                          refine hf.depE hg hd 10 125 (by kernel_rfl) fun u0 e0 g0 h0 => ?_
                          obtain ⟨A9, cp9, hu9, _⟩ := own_form (hW.c10 u0 h0)
                          subst hu9
                          have h0x := h0
                          go_simp
                          exact hK _ _ trivial (hW.put11 h0x)
                      intro r' w9 hg hW hr'
                      obtain ⟨q11, hq11⟩ : ∃ u, r' 11 = some u := Option.ne_none_iff_exists'.1 (hr' 11 (by decide))
                      simp only [List.length_cons, List.length_nil, Nat.reduceAdd, List.range_succ, List.range_zero, List.nil_append, List.cons_append, List.map_cons, List.map_nil, putAll, Act.put, List.setIfInBounds_toArray, List.set_cons_succ, List.set_cons_zero, hq11, Option.getD_some]
                      have hq := hW.c11 q11 hq11
                      have hnew := hW.c10 q11 hq
                      have hkN := hW.kp
                      obtain ⟨A9, cp9, hu9, _⟩ := own_form hnew
                      subst hu9
                      clear hg hW hr' hq11 hq
                      have HNEW := Lib.hid hnew
                      have HKN := Lib.hid (HKW8.out.tr hkN)
                      have HAN := Lib.hid (show ∀ x ∈ L.take 0 ++ ⟨D1, l1, d1, D2, l2, d2, ⟨numB s n, numB sk KK⟩⟩ :: L.drop 0, CvO w9 w3.heap.size x from fun x hx => by
                        rcases List.mem_append.1 hx with h | h
                        · exact (HALL8.out x (List.mem_of_mem_take h)).no hkN
                        · rcases List.mem_cons.1 h with rfl | h
                          · exact HXO8.out.no hkN
                          · exact (HALL8.out x (List.mem_of_mem_drop h)).no hkN)
                      have hw38 := HKW8.out.size
                      have HW38 := Lib.hid hw38
                      clear hkN hnew x0 x1 hw38
                      go_wp2_with fail
                      go_roundw
                      case rel =>
                        refine ⟨s + 1, L.take 0 ++ ⟨D1, l1, d1, D2, l2, d2, ⟨numB s n, numB sk KK⟩⟩ :: L.drop 0, A9, cp9, by omega, by go_num, ?_, ?_, ?_, HAN.out, ?_, HKN.out⟩
                        · rw [show (L.take 0 ++ (⟨D1, l1, d1, D2, l2, d2, ⟨numB s n, numB sk KK⟩⟩ : Cv) :: L.drop 0).length = 1 from HLEN.out]
                        · have h := RefO.put HSN.out HREF.out HLQ.out.symm (at_ := 0) (by rw [List.length_map, ← HM.out]; exact ha) (.inl rfl) (fun i h1 h2 => HHI.out i h1 (by rwa [List.length_map] at h2))
                          rw [HCE.out] at h
                          rw [List.map_append, List.map_cons, List.map_take, List.map_drop]
                          exact h
                        · rw [HLEN.out]
                          have h := own_mono HNEW.out HW38.out
                          rw [List.flatMap_append, List.flatMap_cons]
                          exact h
                        · rw [HLEN.out]; omega
                      case measure => simp [intOf]; omega
                    | some ad =>
                      obtain ⟨gD, rfl⟩ := own_some8 (hD ▸ HOWN8.out)
                      subst hD
                      go_wp2_with fail
                      have HXL := Lib.hid (show ((L.take pa).flatMap Cv.cells).length = pa * 2 by rw [flat_len cv_len, List.length_take, ← HM.out, Nat.min_eq_left ha])
                      have HON := Lib.hid (show ∀ u ∈ [Value.slice D1 l1 d1, Value.slice D2 l2 d2] ++ (L.drop pa).flatMap Cv.cells, u.oneCell' = true from fun u hu => by
                        rcases List.mem_append.1 hu with h | h
                        · simp at h; rcases h with rfl | rfl <;> rfl
                        · exact cvs_one _ u h)
                      have HXN := Lib.hid (show ∀ W, Kp No wr W → ∀ ad, some (⟨gD, 0, none⟩ : Addr) = some ad → ∀ j u, ((L.take pa).flatMap Cv.cells)[j]? = some u → W.cell? (ad.add j) = some u from fun W k ad h j u hj => by
                        cases h
                        rw [add_at, Nat.zero_add]
                        refine k.cell (own_cell HOWN8.out ?_) id
                        have hlt := (List.getElem?_eq_some_iff.1 hj).1
                        rw [← List.take_append_drop pa L, List.flatMap_append, List.getElem?_append_left hlt]
                        exact hj)
                      have HLEN := Lib.hid (show (L.take pa ++ (⟨D1, l1, d1, D2, l2, d2, ⟨numB s n, numB sk KK⟩⟩ : Cv) :: L.drop pa).length = pa + (1 + (m - pa)) by rw [List.length_append, List.length_cons, List.length_take, List.length_drop, ← HM.out]; omega)
                      have HYL := Lib.hid (show ((L.drop pa).flatMap Cv.cells).length = (m - pa) * 2 by rw [flat_len cv_len, List.length_drop, ← HM.out])
                      obtain ⟨_, c9, hc9, hmc, hcm, _⟩ := own_form HOWN8.out
                      have hcc9 := (Value.slice.inj hc9).2.2
                      rw [← hcc9] at hmc hcm
                      unfold maxLen at hcm
                      clear hc9 hcc9
                      by_cases hca : c = pa
                      · have HCE2 := Lib.hid (show m = pa ∧ c = pa from ⟨by omega, hca⟩)
                        clear hca
                        have HYN := Lib.hid (show ∀ W, Kp No wr W → ∀ ad, some (⟨gD, 0, none⟩ : Addr) = some ad → ∀ j u, ((L.drop pa).flatMap Cv.cells)[j]? = some u → W.cell? (ad.add j) = some u from fun W k ad h j u hj => by
                          have hlt := (List.getElem?_eq_some_iff.1 hj).1
                          rw [HYL.out] at hlt
                          have := HCE2.out
                          omega)
                        refine wp_region_each (fun ix uR => match ix with | 0 => uR = .slice (some ⟨gD, 0, none⟩) m c | 1 => uR = .int .i64 (pa : Nat) | 2 => uR = .int .i64 (pa : Nat) | 3 => uR = .slice (some ⟨gD, 0, none⟩) pa pa | 4 => uR = .agg #[.slice D1 l1 d1, .slice D2 l2 d2] | 6 => uR = .slice (some ⟨gD, 0, none⟩) m c | 7 => uR = .int .i64 (pa : Nat) | 8 => uR = .slice (some ⟨gD, 0, none⟩) (m - pa) 0 | _ => True) (fun r w' => InW wr ((L.take pa).flatMap Cv.cells) [.slice D1 l1 d1, .slice D2 l2 d2] ((L.drop pa).flatMap Cv.cells) (1 + (m - pa)) (pa + (1 + (m - pa))) r w') (by kernel_rfl) (by kernel_rfl) (by kernel_rfl) ?_ ?_ ?_
                        · exact InW.start
                        · refine ⟨?_, ?_, ?_, ?_, ?_, ?_, ?_, ?_, ?_, ?_, ?_, ?_, trivial⟩
                          · intro r a w' hf hg hW hr hd K hK
                            refine wpOp_of rfl rfl ?_
                            have e0 : a.tmps.getD 9 undef = .slice (some ⟨gD, 0, none⟩) m c := hf.evalYet (hW.yet0 hr) (by kernel_rfl)
                            go_simp
                            exact hK _ _ rfl (hW.upd 0 _ (by decide) (by decide) (by decide) (by decide) (fun e => absurd e (by decide)) (fun e => absurd e (by decide)))
                          · intro r a w' hf hg hW hr hd K hK
                            refine wpOp_of rfl rfl ?_
                            have e0 : a.tmps.getD 14 undef = .int .i64 (pa : Nat) := hf.evalFree (by kernel_rfl)
                            go_simp
                            exact hK _ _ rfl (hW.upd 1 _ (by decide) (by decide) (by decide) (by decide) (fun e => absurd e (by decide)) (fun e => absurd e (by decide)))
                          · intro r a w' hf hg hW hr hd K hK
                            refine wpOp_of rfl rfl ?_
                            have e0 : a.tmps.getD 14 undef = .int .i64 (pa : Nat) := hf.evalFree (by kernel_rfl)
                            go_simp
                            exact hK _ _ rfl (hW.upd 2 _ (by decide) (by decide) (by decide) (by decide) (fun e => absurd e (by decide)) (fun e => absurd e (by decide)))
                          · intro r a w' hf hg hW hr hd K hK
                            refine wpOp_of rfl rfl ?_
                            refine hf.depE hg hd 0 115 (by kernel_rfl) fun u0 e0 g0 h0 => ?_
                            replace g0 : u0 = .slice (some ⟨gD, 0, none⟩) m c := g0
                            subst g0
                            refine hf.depE hg hd 1 116 (by kernel_rfl) fun u1 e1 g1 h1 => ?_
                            replace g1 : u1 = .int .i64 (pa : Nat) := g1
                            subst g1
                            refine hf.depE hg hd 2 117 (by kernel_rfl) fun u2 e2 g2 h2 => ?_
                            replace g2 : u2 = .int .i64 (pa : Nat) := g2
                            subst g2
                            go_simp
                            rw [if_pos (show pa ≤ c by omega)]
                            exact hK _ _ rfl (hW.upd 3 _ (by decide) (by decide) (by decide) (by decide) (fun e => absurd e (by decide)) (fun _ => by rw [h0]; simp))
                          · intro r a w' hf hg hW hr hd K hK
                            refine wpOp_of rfl rfl ?_
                            have e0 : a.tmps.getD 13 undef = .pointer (some ⟨gc, 0, none⟩) := hf.evalFree (by kernel_rfl)
                            have z0 := hW.kp.cell x0 id
                            have z1 := hW.kp.cell x1 id
                            go_simp
                            exact hK _ _ rfl (hW.upd 4 _ (by decide) (by decide) (by decide) (by decide) (fun e => absurd e (by decide)) (fun e => absurd e (by decide)))
                          · intro r a w' hf hg hW hr hd K hK
                            refine wpOp_of rfl rfl ?_
                            refine hf.depE hg hd 4 119 (by kernel_rfl) fun u0 e0 g0 h0 => ?_
                            replace g0 : u0 = .agg #[.slice D1 l1 d1, .slice D2 l2 d2] := g0
                            subst g0
                            have e0' := get_of_getD e0
                            go_simp
                            exact hK _ _ trivial (hW.put5 hr rfl rfl)
                          · intro r a w' hf hg hW hr hd K hK
                            refine wpOp_of rfl rfl ?_
                            have e0 : a.tmps.getD 9 undef = .slice (some ⟨gD, 0, none⟩) m c := hf.evalYet (hW.yet6 hr) (by kernel_rfl)
                            go_simp
                            exact hK _ _ rfl (hW.upd 6 _ (by decide) (by decide) (by decide) (by decide) (fun e => absurd e (by decide)) (fun e => absurd e (by decide)))
                          · intro r a w' hf hg hW hr hd K hK
                            refine wpOp_of rfl rfl ?_
                            have e0 : a.tmps.getD 14 undef = .int .i64 (pa : Nat) := hf.evalFree (by kernel_rfl)
                            go_simp
                            exact hK _ _ rfl (hW.upd 7 _ (by decide) (by decide) (by decide) (by decide) (fun e => absurd e (by decide)) (fun e => absurd e (by decide)))
                          · intro r a w' hf hg hW hr hd K hK
                            refine wpOp_of rfl rfl ?_
                            refine hf.depE hg hd 6 121 (by kernel_rfl) fun u0 e0 g0 h0 => ?_
                            replace g0 : u0 = .slice (some ⟨gD, 0, none⟩) m c := g0
                            subst g0
                            refine hf.depE hg hd 7 122 (by kernel_rfl) fun u1 e1 g1 h1 => ?_
                            replace g1 : u1 = .int .i64 (pa : Nat) := g1
                            subst g1
                            go_simp
                            rw [if_pos HCE2.out.2, show c - pa = 0 by have := HCE2.out; omega]
                            exact hK _ _ rfl (hW.upd 8 _ (by decide) (by decide) (by decide) (by decide) (fun _ => by rw [h0]; simp) (fun e => absurd e (by decide)))
                          · intro r a w' hf hg hW hr hd K hK
                            refine wpOp_of rfl rfl ?_
                            refine hf.depE hg hd 5 120 (by kernel_rfl) fun u0 e0 g0 h0 => ?_
                            refine hf.depE hg hd 8 123 (by kernel_rfl) fun u1 e1 g1 h1 => ?_
                            replace g1 : u1 = .slice (some ⟨gD, 0, none⟩) (m - pa) 0 := g1
                            subst g1
                            have ho := hW.c5 u0 h0 hr
                            refine wpo_append_nil (.tmp 120) (.tmp 123) 46 rfl wr.heap.size 30 i0 _ 2 48 Tryz.underlying46 hi0 hz0 hz1 hz2 rfl (by decide) u0 1 [.slice D1 l1 d1, .slice D2 l2 d2] e0 ho (some ⟨gD, 0, none⟩) (m - pa) 0 ((L.drop pa).flatMap Cv.cells) e1 HYL.out (by simp) (HYN.out _ hW.kp) (cvs_one _) (by unfold maxLen; omega) (by omega) hW.kp.size (fun v' w'' ho2 hgr _ => ?_)
                            exact hK _ _ trivial (hW.put9 hr (by rw [h0]; simp) (by rw [h1]; simp) ho ho2 hgr)
                          · intro r a w' hf hg hW hr hd K hK
                            refine wpOp_of rfl rfl ?_
                            refine hf.depE hg hd 3 118 (by kernel_rfl) fun u0 e0 g0 h0 => ?_
                            replace g0 : u0 = .slice (some ⟨gD, 0, none⟩) pa pa := g0
                            subst g0
                            refine hf.depE hg hd 9 124 (by kernel_rfl) fun u1 e1 g1 h1 => ?_
                            have ho9 := hW.c9 u1 h1 hr
                            obtain ⟨A9, cp9, hu9, _, _, hg9⟩ := own_form ho9
                            obtain ⟨g9, hg9⟩ := hg9 (by omega)
                            subst hg9
                            subst hu9
                            refine wpo_append_full (.tmp 118) (.tmp 124) 46 rfl 30 i0 _ 2 48 Tryz.underlying46 hi0 hz0 hz1 hz2 rfl (by decide) (some ⟨gD, 0, none⟩) pa ((L.take pa).flatMap Cv.cells) e0 HXL.out (HXN.out _ hW.kp) (fun h => by cases h) ⟨g9, 0, none⟩ (1 + (m - pa)) cp9 ([.slice D1 l1 d1, .slice D2 l2 d2] ++ (L.drop pa).flatMap Cv.cells) e1 ho9.1 (fun j u hj => by rw [add_at, Nat.zero_add]; exact own_cell ho9 hj) HON.out (by omega) (by unfold maxLen; omega) (by omega) (fun v' w'' ho2 k2 => ?_)
                            exact hK _ _ trivial (hW.put10 hr (by rw [h1]; simp) (by rw [h0]; simp) (own_mono ho2 hW.kp.size) k2)
                          · intro r a w' hf hg hW hr hd K hK
                            refine wpOp_of rfl rfl ?_
                            refine hf.depE hg hd 10 125 (by kernel_rfl) fun u0 e0 g0 h0 => ?_
                            obtain ⟨A9, cp9, hu9, _⟩ := own_form (hW.c10 u0 h0)
                            subst hu9
                            have h0x := h0
                            go_simp
                            exact hK _ _ trivial (hW.put11 h0x)
                        intro r' w9 hg hW hr'
                        obtain ⟨q11, hq11⟩ : ∃ u, r' 11 = some u := Option.ne_none_iff_exists'.1 (hr' 11 (by decide))
                        simp only [List.length_cons, List.length_nil, Nat.reduceAdd, List.range_succ, List.range_zero, List.nil_append, List.cons_append, List.map_cons, List.map_nil, putAll, Act.put, List.setIfInBounds_toArray, List.set_cons_succ, List.set_cons_zero, hq11, Option.getD_some]
                        have hq := hW.c11 q11 hq11
                        have hnew := hW.c10 q11 hq
                        have hkN := hW.kp
                        obtain ⟨A9, cp9, hu9, _⟩ := own_form hnew
                        subst hu9
                        clear hg hW hr' hq11 hq
                        have HNEW := Lib.hid hnew
                        have HKN := Lib.hid (HKW8.out.tr hkN)
                        have HAN := Lib.hid (show ∀ x ∈ L.take pa ++ ⟨D1, l1, d1, D2, l2, d2, ⟨numB s n, numB sk KK⟩⟩ :: L.drop pa, CvO w9 w3.heap.size x from fun x hx => by
                          rcases List.mem_append.1 hx with h | h
                          · exact (HALL8.out x (List.mem_of_mem_take h)).no hkN
                          · rcases List.mem_cons.1 h with rfl | h
                            · exact HXO8.out.no hkN
                            · exact (HALL8.out x (List.mem_of_mem_drop h)).no hkN)
                        have hw38 := HKW8.out.size
                        have HW38 := Lib.hid hw38
                        clear hkN hnew x0 x1 hw38
                        go_wp2_with fail
                        go_roundw
                        case rel =>
                          refine ⟨s + 1, L.take pa ++ ⟨D1, l1, d1, D2, l2, d2, ⟨numB s n, numB sk KK⟩⟩ :: L.drop pa, A9, cp9, by omega, by go_num, ?_, ?_, ?_, HAN.out, ?_, HKN.out⟩
                          · rw [show (L.take pa ++ (⟨D1, l1, d1, D2, l2, d2, ⟨numB s n, numB sk KK⟩⟩ : Cv) :: L.drop pa).length = pa + (1 + (m - pa)) from HLEN.out]
                          · have h := RefO.put HSN.out HREF.out HLQ.out.symm (at_ := pa) (by rw [List.length_map, ← HM.out]; exact ha) (by rcases HLO.out with h | h; exact .inl h; exact .inr (by omega)) (fun i h1 h2 => HHI.out i h1 (by rwa [List.length_map] at h2))
                            rw [HCE.out] at h
                            rw [List.map_append, List.map_cons, List.map_take, List.map_drop]
                            exact h
                          · rw [HLEN.out]
                            have h := own_mono HNEW.out HW38.out
                            rw [List.flatMap_append, List.flatMap_cons]
                            exact h
                          · rw [HLEN.out]; omega
                        case measure => simp [intOf]; omega
                      · have HYN := Lib.hid (show ∀ W, Kp No wr W → ∀ ad, some (⟨gD, pa * 2, none⟩ : Addr) = some ad → ∀ j u, ((L.drop pa).flatMap Cv.cells)[j]? = some u → W.cell? (ad.add j) = some u from fun W k ad h j u hj => by
                          cases h
                          rw [add_at]
                          refine k.cell (own_cell HOWN8.out ?_) id
                          rw [← List.take_append_drop pa L, List.flatMap_append, List.getElem?_append_right (by rw [HXL.out]; omega), HXL.out, show pa * 2 + j - pa * 2 = j by omega]
                          exact hj)
                        refine wp_region_each (fun ix uR => match ix with | 0 => uR = .slice (some ⟨gD, 0, none⟩) m c | 1 => uR = .int .i64 (pa : Nat) | 2 => uR = .int .i64 (pa : Nat) | 3 => uR = .slice (some ⟨gD, 0, none⟩) pa pa | 4 => uR = .agg #[.slice D1 l1 d1, .slice D2 l2 d2] | 6 => uR = .slice (some ⟨gD, 0, none⟩) m c | 7 => uR = .int .i64 (pa : Nat) | 8 => uR = .slice (some ⟨gD, pa * 2, none⟩) (m - pa) (c - pa) | _ => True) (fun r w' => InW wr ((L.take pa).flatMap Cv.cells) [.slice D1 l1 d1, .slice D2 l2 d2] ((L.drop pa).flatMap Cv.cells) (1 + (m - pa)) (pa + (1 + (m - pa))) r w') (by kernel_rfl) (by kernel_rfl) (by kernel_rfl) ?_ ?_ ?_
                        · exact InW.start
                        · refine ⟨?_, ?_, ?_, ?_, ?_, ?_, ?_, ?_, ?_, ?_, ?_, ?_, trivial⟩
                          · intro r a w' hf hg hW hr hd K hK
                            refine wpOp_of rfl rfl ?_
                            have e0 : a.tmps.getD 9 undef = .slice (some ⟨gD, 0, none⟩) m c := hf.evalYet (hW.yet0 hr) (by kernel_rfl)
                            go_simp
                            exact hK _ _ rfl (hW.upd 0 _ (by decide) (by decide) (by decide) (by decide) (fun e => absurd e (by decide)) (fun e => absurd e (by decide)))
                          · intro r a w' hf hg hW hr hd K hK
                            refine wpOp_of rfl rfl ?_
                            have e0 : a.tmps.getD 14 undef = .int .i64 (pa : Nat) := hf.evalFree (by kernel_rfl)
                            go_simp
                            exact hK _ _ rfl (hW.upd 1 _ (by decide) (by decide) (by decide) (by decide) (fun e => absurd e (by decide)) (fun e => absurd e (by decide)))
                          · intro r a w' hf hg hW hr hd K hK
                            refine wpOp_of rfl rfl ?_
                            have e0 : a.tmps.getD 14 undef = .int .i64 (pa : Nat) := hf.evalFree (by kernel_rfl)
                            go_simp
                            exact hK _ _ rfl (hW.upd 2 _ (by decide) (by decide) (by decide) (by decide) (fun e => absurd e (by decide)) (fun e => absurd e (by decide)))
                          · intro r a w' hf hg hW hr hd K hK
                            refine wpOp_of rfl rfl ?_
                            refine hf.depE hg hd 0 115 (by kernel_rfl) fun u0 e0 g0 h0 => ?_
                            replace g0 : u0 = .slice (some ⟨gD, 0, none⟩) m c := g0
                            subst g0
                            refine hf.depE hg hd 1 116 (by kernel_rfl) fun u1 e1 g1 h1 => ?_
                            replace g1 : u1 = .int .i64 (pa : Nat) := g1
                            subst g1
                            refine hf.depE hg hd 2 117 (by kernel_rfl) fun u2 e2 g2 h2 => ?_
                            replace g2 : u2 = .int .i64 (pa : Nat) := g2
                            subst g2
                            go_simp
                            rw [if_pos (show pa ≤ c by omega)]
                            exact hK _ _ rfl (hW.upd 3 _ (by decide) (by decide) (by decide) (by decide) (fun e => absurd e (by decide)) (fun _ => by rw [h0]; simp))
                          · intro r a w' hf hg hW hr hd K hK
                            refine wpOp_of rfl rfl ?_
                            have e0 : a.tmps.getD 13 undef = .pointer (some ⟨gc, 0, none⟩) := hf.evalFree (by kernel_rfl)
                            have z0 := hW.kp.cell x0 id
                            have z1 := hW.kp.cell x1 id
                            go_simp
                            exact hK _ _ rfl (hW.upd 4 _ (by decide) (by decide) (by decide) (by decide) (fun e => absurd e (by decide)) (fun e => absurd e (by decide)))
                          · intro r a w' hf hg hW hr hd K hK
                            refine wpOp_of rfl rfl ?_
                            refine hf.depE hg hd 4 119 (by kernel_rfl) fun u0 e0 g0 h0 => ?_
                            replace g0 : u0 = .agg #[.slice D1 l1 d1, .slice D2 l2 d2] := g0
                            subst g0
                            have e0' := get_of_getD e0
                            go_simp
                            exact hK _ _ trivial (hW.put5 hr rfl rfl)
                          · intro r a w' hf hg hW hr hd K hK
                            refine wpOp_of rfl rfl ?_
                            have e0 : a.tmps.getD 9 undef = .slice (some ⟨gD, 0, none⟩) m c := hf.evalYet (hW.yet6 hr) (by kernel_rfl)
                            go_simp
                            exact hK _ _ rfl (hW.upd 6 _ (by decide) (by decide) (by decide) (by decide) (fun e => absurd e (by decide)) (fun e => absurd e (by decide)))
                          · intro r a w' hf hg hW hr hd K hK
                            refine wpOp_of rfl rfl ?_
                            have e0 : a.tmps.getD 14 undef = .int .i64 (pa : Nat) := hf.evalFree (by kernel_rfl)
                            go_simp
                            exact hK _ _ rfl (hW.upd 7 _ (by decide) (by decide) (by decide) (by decide) (fun e => absurd e (by decide)) (fun e => absurd e (by decide)))
                          · intro r a w' hf hg hW hr hd K hK
                            refine wpOp_of rfl rfl ?_
                            refine hf.depE hg hd 6 121 (by kernel_rfl) fun u0 e0 g0 h0 => ?_
                            replace g0 : u0 = .slice (some ⟨gD, 0, none⟩) m c := g0
                            subst g0
                            refine hf.depE hg hd 7 122 (by kernel_rfl) fun u1 e1 g1 h1 => ?_
                            replace g1 : u1 = .int .i64 (pa : Nat) := g1
                            subst g1
                            go_simp
                            exact hK _ _ rfl (hW.upd 8 _ (by decide) (by decide) (by decide) (by decide) (fun _ => by rw [h0]; simp) (fun e => absurd e (by decide)))
                          · intro r a w' hf hg hW hr hd K hK
                            refine wpOp_of rfl rfl ?_
                            refine hf.depE hg hd 5 120 (by kernel_rfl) fun u0 e0 g0 h0 => ?_
                            refine hf.depE hg hd 8 123 (by kernel_rfl) fun u1 e1 g1 h1 => ?_
                            replace g1 : u1 = .slice (some ⟨gD, pa * 2, none⟩) (m - pa) (c - pa) := g1
                            subst g1
                            have ho := hW.c5 u0 h0 hr
                            refine wpo_append_nil (.tmp 120) (.tmp 123) 46 rfl wr.heap.size 30 i0 _ 2 48 Tryz.underlying46 hi0 hz0 hz1 hz2 rfl (by decide) u0 1 [.slice D1 l1 d1, .slice D2 l2 d2] e0 ho (some ⟨gD, pa * 2, none⟩) (m - pa) (c - pa) ((L.drop pa).flatMap Cv.cells) e1 HYL.out (by simp) (HYN.out _ hW.kp) (cvs_one _) (by unfold maxLen; omega) (by omega) hW.kp.size (fun v' w'' ho2 hgr _ => ?_)
                            exact hK _ _ trivial (hW.put9 hr (by rw [h0]; simp) (by rw [h1]; simp) ho ho2 hgr)
                          · intro r a w' hf hg hW hr hd K hK
                            refine wpOp_of rfl rfl ?_
                            refine hf.depE hg hd 3 118 (by kernel_rfl) fun u0 e0 g0 h0 => ?_
                            replace g0 : u0 = .slice (some ⟨gD, 0, none⟩) pa pa := g0
                            subst g0
                            refine hf.depE hg hd 9 124 (by kernel_rfl) fun u1 e1 g1 h1 => ?_
                            have ho9 := hW.c9 u1 h1 hr
                            obtain ⟨A9, cp9, hu9, _, _, hg9⟩ := own_form ho9
                            obtain ⟨g9, hg9⟩ := hg9 (by omega)
                            subst hg9
                            subst hu9
                            refine wpo_append_full (.tmp 118) (.tmp 124) 46 rfl 30 i0 _ 2 48 Tryz.underlying46 hi0 hz0 hz1 hz2 rfl (by decide) (some ⟨gD, 0, none⟩) pa ((L.take pa).flatMap Cv.cells) e0 HXL.out (HXN.out _ hW.kp) (fun h => by cases h) ⟨g9, 0, none⟩ (1 + (m - pa)) cp9 ([.slice D1 l1 d1, .slice D2 l2 d2] ++ (L.drop pa).flatMap Cv.cells) e1 ho9.1 (fun j u hj => by rw [add_at, Nat.zero_add]; exact own_cell ho9 hj) HON.out (by omega) (by unfold maxLen; omega) (by omega) (fun v' w'' ho2 k2 => ?_)
                            exact hK _ _ trivial (hW.put10 hr (by rw [h1]; simp) (by rw [h0]; simp) (own_mono ho2 hW.kp.size) k2)
                          · intro r a w' hf hg hW hr hd K hK
                            refine wpOp_of rfl rfl ?_
                            refine hf.depE hg hd 10 125 (by kernel_rfl) fun u0 e0 g0 h0 => ?_
                            obtain ⟨A9, cp9, hu9, _⟩ := own_form (hW.c10 u0 h0)
                            subst hu9
                            have h0x := h0
                            go_simp
                            exact hK _ _ trivial (hW.put11 h0x)
                        intro r' w9 hg hW hr'
                        obtain ⟨q11, hq11⟩ : ∃ u, r' 11 = some u := Option.ne_none_iff_exists'.1 (hr' 11 (by decide))
                        simp only [List.length_cons, List.length_nil, Nat.reduceAdd, List.range_succ, List.range_zero, List.nil_append, List.cons_append, List.map_cons, List.map_nil, putAll, Act.put, List.setIfInBounds_toArray, List.set_cons_succ, List.set_cons_zero, hq11, Option.getD_some]
                        have hq := hW.c11 q11 hq11
                        have hnew := hW.c10 q11 hq
                        have hkN := hW.kp
                        obtain ⟨A9, cp9, hu9, _⟩ := own_form hnew
                        subst hu9
                        clear hg hW hr' hq11 hq
                        have HNEW := Lib.hid hnew
                        have HKN := Lib.hid (HKW8.out.tr hkN)
                        have HAN := Lib.hid (show ∀ x ∈ L.take pa ++ ⟨D1, l1, d1, D2, l2, d2, ⟨numB s n, numB sk KK⟩⟩ :: L.drop pa, CvO w9 w3.heap.size x from fun x hx => by
                          rcases List.mem_append.1 hx with h | h
                          · exact (HALL8.out x (List.mem_of_mem_take h)).no hkN
                          · rcases List.mem_cons.1 h with rfl | h
                            · exact HXO8.out.no hkN
                            · exact (HALL8.out x (List.mem_of_mem_drop h)).no hkN)
                        have hw38 := HKW8.out.size
                        have HW38 := Lib.hid hw38
                        clear hkN hnew x0 x1 hw38
                        go_wp2_with fail
                        go_roundw
                        case rel =>
                          refine ⟨s + 1, L.take pa ++ ⟨D1, l1, d1, D2, l2, d2, ⟨numB s n, numB sk KK⟩⟩ :: L.drop pa, A9, cp9, by omega, by go_num, ?_, ?_, ?_, HAN.out, ?_, HKN.out⟩
                          · rw [show (L.take pa ++ (⟨D1, l1, d1, D2, l2, d2, ⟨numB s n, numB sk KK⟩⟩ : Cv) :: L.drop pa).length = pa + (1 + (m - pa)) from HLEN.out]
                          · have h := RefO.put HSN.out HREF.out HLQ.out.symm (at_ := pa) (by rw [List.length_map, ← HM.out]; exact ha) (by rcases HLO.out with h | h; exact .inl h; exact .inr (by omega)) (fun i h1 h2 => HHI.out i h1 (by rwa [List.length_map] at h2))
                            rw [HCE.out] at h
                            rw [List.map_append, List.map_cons, List.map_take, List.map_drop]
                            exact h
                          · rw [HLEN.out]
                            have h := own_mono HNEW.out HW38.out
                            rw [List.flatMap_append, List.flatMap_cons]
                            exact h
                          · rw [HLEN.out]; omega
                        case measure => simp [intOf]; omega
                  · obtain ⟨b, hb⟩ : ∃ b, pa = b + 1 := ⟨pa - 1, by omega⟩
                    have dk : decide ((0 : Int) < (pa : Int)) = true := decide_eq_true (by omega)
                    have dk' : decide (0 < pa) = true := decide_eq_true (by omega)
                    have hbm : b < m := by omega
                    have hbm' : (b : Int) < (m : Int) := by omega
                    obtain ⟨y, hy⟩ : ∃ y, L[b]? = some y := ⟨_, List.getElem?_eq_getElem (by rw [← HM.out]; exact hbm)⟩
                    have HYO := Lib.hid (HALL8.out y (List.mem_of_getElem? hy))
                    obtain ⟨gD, rfl, _, hgD, _, hyc⟩ := own_at cv_len HOWN8.out hy (by decide)
                    have HYD := Lib.hid (show (L.map Cv.c).getD b default = y.c by rw [List.getD_eq_getElem?_getD, List.getElem?_map, hy]; rfl)
                    have hylen := HYO.out.len
                    have hycb : CbOk n KK y.c := by
                      obtain ⟨_, _, _, h⟩ := (HREF.out.mem y.c).1 (List.mem_map.2 ⟨y, List.mem_of_getElem? hy, rfl⟩)
                      rw [← h]
                      exact cbOf_ok _ _ _
                    have hyl1 := up_len hycb.s1 hycb.s2
                    have hyl2 := up_len hycb.k1 hycb.k2
                    obtain ⟨YP, yp, ycp, YQ, yq, ycq, yc⟩ := y
                    dsimp only at hylen hyl1 hyl2
                    have y0 := (hyc 0 _ rfl).1
                    have y1 := (hyc 1 _ rfl).1
                    simp only [Nat.add_zero] at y0 y1
                    have eab : wrap64 ((pa : Int) - 1) = (b : Int) := by rw [IntWalk.wrap64_in _ (by omega)]; omega
                    have EAB := Lib.hid eab
                    have EAB' := Lib.hid (show IntKind.i64.wrap ((pa : Int) - 1) = (b : Int) by clear eab; rw [IntKind.wrap_i64]; omega)
                    have HYB := Lib.hid (show yp ≤ 100000 ∧ yq ≤ 100000 from by clear eab; omega)
                    have HAB := Lib.hid hb
                    obtain ⟨cq, hcq⟩ : ∃ cq, decide (cmpC (cbOf n KK s) yc < 0) = cq := ⟨_, rfl⟩
                    have HCQ := Lib.hid hcq
                    clear eab hyc hy hycb hylen hyl1 hyl2 hb hcq ha0
                    have e1 := EAB'.out
                    go_wp2_with fail
                    cases cq with
                    | true =>
                      have FS : Stab (fun ix wz u => True) := fun ix u wz wz' kz h => trivial
                      replace FS := Lib.hid FS
                      refine wp_region_each (fun ix uR => match ix with | 0 => uR = .int .i64 (pa : Nat) | 1 => uR = .bool true | 2 => uR = .bool true | 3 => uR = .agg #[.slice D1 l1 d1, .slice D2 l2 d2] | 4 => uR = .slice (some ⟨gD, 0, none⟩) m c | 5 => uR = .int .i64 (pa : Nat) | 6 => uR = .int .i64 (b : Nat) | 7 => uR = .pointer (some ⟨gD, b * 2, none⟩) | 8 => uR = .agg #[.slice YP yp ycp, .slice YQ yq ycq] | 9 => uR = .bool true | 10 => uR = .bool true | _ => True) (HvW wr (fun ix wz u => True)) (by kernel_rfl) (by kernel_rfl) (by kernel_rfl) ?_ ?_ ?_
                      · exact HvW.start _ _
                      · refine ⟨?_, ?_, ?_, ?_, ?_, ?_, ?_, ?_, ?_, ?_, ?_, trivial⟩
                        · intro r a w' hf hg hW hr hd K hK
                          refine wpOp_of rfl rfl ?_
                          have e0 : a.tmps.getD 14 undef = .int .i64 (pa : Nat) := hf.evalFree (by kernel_rfl)
                          go_simp
                          exact hK _ _ rfl (hW.upd 0 _ trivial)
                        · intro r a w' hf hg hW hr hd K hK
                          refine wpOp_of rfl rfl ?_
                          refine hf.depE hg hd 0 102 (by kernel_rfl) fun u0 e0 g0 h0 => ?_
                          replace g0 : u0 = .int .i64 (pa : Nat) := g0
                          subst g0
                          go_simp
                          exact hK _ _ rfl (hW.upd 1 _ trivial)
                        · intro r a w' hf hg hW hr hd K hK
                          refine wpOp_of rfl rfl ?_
                          refine hf.depE hg hd 1 103 (by kernel_rfl) fun u0 e0 g0 h0 => ?_
                          replace g0 : u0 = .bool true := g0
                          subst g0
                          go_simp
                          exact hK _ _ rfl (hW.upd 2 _ trivial)
                        · intro r a w' hf hg hW hr hd K hK
                          refine hf.depE hg hd 2 104 (by kernel_rfl) fun uG eG gG _ => ?_
                          replace gG : uG = .bool true := gG
                          subst gG
                          refine wpOp_run rfl rfl rfl rfl eG ?_
                          have e0 : a.tmps.getD 13 undef = .pointer (some ⟨gc, 0, none⟩) := hf.evalFree (by kernel_rfl)
                          have z0 := hW.kp.cell x0 id
                          have z1 := hW.kp.cell x1 id
                          go_simp
                          exact hK _ _ rfl (hW.upd 3 _ trivial)
                        · intro r a w' hf hg hW hr hd K hK
                          refine hf.depE hg hd 2 104 (by kernel_rfl) fun uG eG gG _ => ?_
                          replace gG : uG = .bool true := gG
                          subst gG
                          refine wpOp_run rfl rfl rfl rfl eG ?_
                          have e0 : a.tmps.getD 9 undef = .slice (some ⟨gD, 0, none⟩) m c := hf.evalFree (by kernel_rfl)
                          go_simp
                          exact hK _ _ rfl (hW.upd 4 _ trivial)
                        · intro r a w' hf hg hW hr hd K hK
                          refine hf.depE hg hd 2 104 (by kernel_rfl) fun uG eG gG _ => ?_
                          replace gG : uG = .bool true := gG
                          subst gG
                          refine wpOp_run rfl rfl rfl rfl eG ?_
                          have e0 : a.tmps.getD 14 undef = .int .i64 (pa : Nat) := hf.evalFree (by kernel_rfl)
                          go_simp
                          exact hK _ _ rfl (hW.upd 5 _ trivial)
                        · intro r a w' hf hg hW hr hd K hK
                          refine hf.depE hg hd 2 104 (by kernel_rfl) fun uG eG gG _ => ?_
                          replace gG : uG = .bool true := gG
                          subst gG
                          refine wpOp_run rfl rfl rfl rfl eG ?_
                          refine hf.depE hg hd 5 107 (by kernel_rfl) fun u0 e0 g0 h0 => ?_
                          replace g0 : u0 = .int .i64 (pa : Nat) := g0
                          subst g0
                          go_simp
                          exact hK _ _ rfl (hW.upd 6 _ trivial)
                        · intro r a w' hf hg hW hr hd K hK
                          refine hf.depE hg hd 2 104 (by kernel_rfl) fun uG eG gG _ => ?_
                          replace gG : uG = .bool true := gG
                          subst gG
                          refine wpOp_run rfl rfl rfl rfl eG ?_
                          refine hf.depE hg hd 4 106 (by kernel_rfl) fun u0 e0 g0 h0 => ?_
                          replace g0 : u0 = .slice (some ⟨gD, 0, none⟩) m c := g0
                          subst g0
                          refine hf.depE hg hd 6 108 (by kernel_rfl) fun u1 e1 g1 h1 => ?_
                          replace g1 : u1 = .int .i64 (b : Nat) := g1
                          subst g1
                          go_simp
                          exact hK _ _ rfl (hW.upd 7 _ trivial)
                        · intro r a w' hf hg hW hr hd K hK
                          refine hf.depE hg hd 2 104 (by kernel_rfl) fun uG eG gG _ => ?_
                          replace gG : uG = .bool true := gG
                          subst gG
                          refine wpOp_run rfl rfl rfl rfl eG ?_
                          refine hf.depE hg hd 7 109 (by kernel_rfl) fun u0 e0 g0 h0 => ?_
                          replace g0 : u0 = .pointer (some ⟨gD, b * 2, none⟩) := g0
                          subst g0
                          have z0 := hW.kp.cell y0 id
                          have z1 := hW.kp.cell y1 id
                          go_simp
                          exact hK _ _ rfl (hW.upd 8 _ trivial)
                        · intro r a w' hf hg hW hr hd K hK
                          refine hf.depE hg hd 2 104 (by kernel_rfl) fun uG eG gG _ => ?_
                          replace gG : uG = .bool true := gG
                          subst gG
                          refine wpOp_run rfl rfl rfl rfl eG ?_
                          refine hf.depE hg hd 3 105 (by kernel_rfl) fun u0 e0 g0 h0 => ?_
                          replace g0 : u0 = .agg #[.slice D1 l1 d1, .slice D2 l2 d2] := g0
                          subst g0
                          refine hf.depE hg hd 8 110 (by kernel_rfl) fun u1 e1 g1 h1 => ?_
                          replace g1 : u1 = .agg #[.slice YP yp ycp, .slice YQ yq ycq] := g1
                          subst g1
                          have LC := Less_any ⟨D1, l1, d1, D2, l2, d2, ⟨numB s n, numB sk KK⟩⟩ ⟨YP, yp, ycp, YQ, yq, ycq, yc⟩ w' (HXO8.out.is.no hW.kp) (HYO.out.is.no hW.kp) (by dsimp only; omega) (by dsimp only; omega) HYB.out.1 HYB.out.2
                          dsimp only [Cv.val] at LC
                          rw [← HCE.out, HCQ.out] at LC
                          go_simp
                          with_reducible refine LC.mono ?_
                          rintro e w'' ⟨rfl, k⟩
                          exact hK _ _ rfl ((hW.call FS.out k).upd 9 _ trivial)
                        · intro r a w' hf hg hW hr hd K hK
                          refine wpOp_of rfl rfl ?_
                          refine hf.depE hg hd 2 104 (by kernel_rfl) fun u0 e0 g0 h0 => ?_
                          replace g0 : u0 = .bool true := g0
                          subst g0
                          have e0' := get_of_getD e0
                          refine hf.depE hg hd 9 111 (by kernel_rfl) fun u1 e1 g1 h1 => ?_
                          replace g1 : u1 = .bool true := g1
                          subst g1
                          have e1' := get_of_getD e1
                          go_simp
                          exact hK _ _ rfl (hW.upd 10 _ trivial)
                      intro r' w8 hg hW hr'
                      have hkN := hW.kp
                      obtain ⟨q10, hq10⟩ : ∃ u, r' 10 = some u := Option.ne_none_iff_exists'.1 (hr' 10 (by decide))
                      have hk10 := hg 10 q10 hq10
                      replace hk10 : q10 = .bool true := hk10
                      subst hk10
                      simp only [List.length_cons, List.length_nil, Nat.reduceAdd, List.range_succ, List.range_zero, List.nil_append, List.cons_append, List.map_cons, List.map_nil, putAll, Act.put, List.setIfInBounds_toArray, List.set_cons_succ, List.set_cons_zero, hq10, Option.getD_some]
                      clear hg hW hr' FS hq10
                      have HK9 := Lib.hid (HK8.out.tr hkN)
                      clear hkN x0 x1 y0 y1 dk dk' e1
                      have e2 := EAB.out
                      go_wp2_with fail
                      clear e2
                      go_roundw
                      case rel =>
                        refine ⟨b, by omega, by have h := HAB.out; congr 1; omega, fun i h1 h2 => ?_, HK9.out⟩
                        by_cases hib : i = b
                        · rw [hib, HYD.out]
                          exact of_decide_eq_true HCQ.out
                        · exact HHI.out i (by have := HAB.out; omega) h2
                      case measure => have := HAB.out; simp [intOf]; omega
                    | false =>
                      have HLO := Lib.hid (show pa = 0 ∨ ¬ cmpC (cbOf n KK s) ((L.map Cv.c).getD (pa - 1) default) < 0 from .inr (by
                        rw [show pa - 1 = b by have := HAB.out; omega, HYD.out]
                        exact of_decide_eq_false HCQ.out))
                      have FS : Stab (fun ix wz u => True) := fun ix u wz wz' kz h => trivial
                      replace FS := Lib.hid FS
                      refine wp_region_each (fun ix uR => match ix with | 0 => uR = .int .i64 (pa : Nat) | 1 => uR = .bool true | 2 => uR = .bool true | 3 => uR = .agg #[.slice D1 l1 d1, .slice D2 l2 d2] | 4 => uR = .slice (some ⟨gD, 0, none⟩) m c | 5 => uR = .int .i64 (pa : Nat) | 6 => uR = .int .i64 (b : Nat) | 7 => uR = .pointer (some ⟨gD, b * 2, none⟩) | 8 => uR = .agg #[.slice YP yp ycp, .slice YQ yq ycq] | 9 => uR = .bool false | 10 => uR = .bool false | _ => True) (HvW wr (fun ix wz u => True)) (by kernel_rfl) (by kernel_rfl) (by kernel_rfl) ?_ ?_ ?_
                      · exact HvW.start _ _
                      · refine ⟨?_, ?_, ?_, ?_, ?_, ?_, ?_, ?_, ?_, ?_, ?_, trivial⟩
                        · intro r a w' hf hg hW hr hd K hK
                          refine wpOp_of rfl rfl ?_
                          have e0 : a.tmps.getD 14 undef = .int .i64 (pa : Nat) := hf.evalFree (by kernel_rfl)
                          go_simp
                          exact hK _ _ rfl (hW.upd 0 _ trivial)
                        · intro r a w' hf hg hW hr hd K hK
                          refine wpOp_of rfl rfl ?_
                          refine hf.depE hg hd 0 102 (by kernel_rfl) fun u0 e0 g0 h0 => ?_
                          replace g0 : u0 = .int .i64 (pa : Nat) := g0
                          subst g0
                          go_simp
                          exact hK _ _ rfl (hW.upd 1 _ trivial)
                        · intro r a w' hf hg hW hr hd K hK
                          refine wpOp_of rfl rfl ?_
                          refine hf.depE hg hd 1 103 (by kernel_rfl) fun u0 e0 g0 h0 => ?_
                          replace g0 : u0 = .bool true := g0
                          subst g0
                          go_simp
                          exact hK _ _ rfl (hW.upd 2 _ trivial)
                        · intro r a w' hf hg hW hr hd K hK
                          refine hf.depE hg hd 2 104 (by kernel_rfl) fun uG eG gG _ => ?_
                          replace gG : uG = .bool true := gG
                          subst gG
                          refine wpOp_run rfl rfl rfl rfl eG ?_
                          have e0 : a.tmps.getD 13 undef = .pointer (some ⟨gc, 0, none⟩) := hf.evalFree (by kernel_rfl)
                          have z0 := hW.kp.cell x0 id
                          have z1 := hW.kp.cell x1 id
                          go_simp
                          exact hK _ _ rfl (hW.upd 3 _ trivial)
                        · intro r a w' hf hg hW hr hd K hK
                          refine hf.depE hg hd 2 104 (by kernel_rfl) fun uG eG gG _ => ?_
                          replace gG : uG = .bool true := gG
                          subst gG
                          refine wpOp_run rfl rfl rfl rfl eG ?_
                          have e0 : a.tmps.getD 9 undef = .slice (some ⟨gD, 0, none⟩) m c := hf.evalFree (by kernel_rfl)
                          go_simp
                          exact hK _ _ rfl (hW.upd 4 _ trivial)
                        · intro r a w' hf hg hW hr hd K hK
                          refine hf.depE hg hd 2 104 (by kernel_rfl) fun uG eG gG _ => ?_
                          replace gG : uG = .bool true := gG
                          subst gG
                          refine wpOp_run rfl rfl rfl rfl eG ?_
                          have e0 : a.tmps.getD 14 undef = .int .i64 (pa : Nat) := hf.evalFree (by kernel_rfl)
                          go_simp
                          exact hK _ _ rfl (hW.upd 5 _ trivial)
                        · intro r a w' hf hg hW hr hd K hK
                          refine hf.depE hg hd 2 104 (by kernel_rfl) fun uG eG gG _ => ?_
                          replace gG : uG = .bool true := gG
                          subst gG
                          refine wpOp_run rfl rfl rfl rfl eG ?_
                          refine hf.depE hg hd 5 107 (by kernel_rfl) fun u0 e0 g0 h0 => ?_
                          replace g0 : u0 = .int .i64 (pa : Nat) := g0
                          subst g0
                          go_simp
                          exact hK _ _ rfl (hW.upd 6 _ trivial)
                        · intro r a w' hf hg hW hr hd K hK
                          refine hf.depE hg hd 2 104 (by kernel_rfl) fun uG eG gG _ => ?_
                          replace gG : uG = .bool true := gG
                          subst gG
                          refine wpOp_run rfl rfl rfl rfl eG ?_
                          refine hf.depE hg hd 4 106 (by kernel_rfl) fun u0 e0 g0 h0 => ?_
                          replace g0 : u0 = .slice (some ⟨gD, 0, none⟩) m c := g0
                          subst g0
                          refine hf.depE hg hd 6 108 (by kernel_rfl) fun u1 e1 g1 h1 => ?_
                          replace g1 : u1 = .int .i64 (b : Nat) := g1
                          subst g1
                          go_simp
                          exact hK _ _ rfl (hW.upd 7 _ trivial)
                        · intro r a w' hf hg hW hr hd K hK
                          refine hf.depE hg hd 2 104 (by kernel_rfl) fun uG eG gG _ => ?_
                          replace gG : uG = .bool true := gG
                          subst gG
                          refine wpOp_run rfl rfl rfl rfl eG ?_
                          refine hf.depE hg hd 7 109 (by kernel_rfl) fun u0 e0 g0 h0 => ?_
                          replace g0 : u0 = .pointer (some ⟨gD, b * 2, none⟩) := g0
                          subst g0
                          have z0 := hW.kp.cell y0 id
                          have z1 := hW.kp.cell y1 id
                          go_simp
                          exact hK _ _ rfl (hW.upd 8 _ trivial)
                        · intro r a w' hf hg hW hr hd K hK
                          refine hf.depE hg hd 2 104 (by kernel_rfl) fun uG eG gG _ => ?_
                          replace gG : uG = .bool true := gG
                          subst gG
                          refine wpOp_run rfl rfl rfl rfl eG ?_
                          refine hf.depE hg hd 3 105 (by kernel_rfl) fun u0 e0 g0 h0 => ?_
                          replace g0 : u0 = .agg #[.slice D1 l1 d1, .slice D2 l2 d2] := g0
                          subst g0
                          refine hf.depE hg hd 8 110 (by kernel_rfl) fun u1 e1 g1 h1 => ?_
                          replace g1 : u1 = .agg #[.slice YP yp ycp, .slice YQ yq ycq] := g1
                          subst g1
                          have LC := Less_any ⟨D1, l1, d1, D2, l2, d2, ⟨numB s n, numB sk KK⟩⟩ ⟨YP, yp, ycp, YQ, yq, ycq, yc⟩ w' (HXO8.out.is.no hW.kp) (HYO.out.is.no hW.kp) (by dsimp only; omega) (by dsimp only; omega) HYB.out.1 HYB.out.2
                          dsimp only [Cv.val] at LC
                          rw [← HCE.out, HCQ.out] at LC
                          go_simp
                          with_reducible refine LC.mono ?_
                          rintro e w'' ⟨rfl, k⟩
                          exact hK _ _ rfl ((hW.call FS.out k).upd 9 _ trivial)
                        · intro r a w' hf hg hW hr hd K hK
                          refine wpOp_of rfl rfl ?_
                          refine hf.depE hg hd 2 104 (by kernel_rfl) fun u0 e0 g0 h0 => ?_
                          replace g0 : u0 = .bool true := g0
                          subst g0
                          have e0' := get_of_getD e0
                          refine hf.depE hg hd 9 111 (by kernel_rfl) fun u1 e1 g1 h1 => ?_
                          replace g1 : u1 = .bool false := g1
                          subst g1
                          have e1' := get_of_getD e1
                          go_simp
                          exact hK _ _ rfl (hW.upd 10 _ trivial)
                      intro r' w8 hg hW hr'
                      have hkN := hW.kp
                      obtain ⟨q10, hq10⟩ : ∃ u, r' 10 = some u := Option.ne_none_iff_exists'.1 (hr' 10 (by decide))
                      have hk10 := hg 10 q10 hq10
                      replace hk10 : q10 = .bool false := hk10
                      subst hk10
                      simp only [List.length_cons, List.length_nil, Nat.reduceAdd, List.range_succ, List.range_zero, List.nil_append, List.cons_append, List.map_cons, List.map_nil, putAll, Act.put, List.setIfInBounds_toArray, List.set_cons_succ, List.set_cons_zero, hq10, Option.getD_some]
                      clear hg hW hr' FS hq10
                      clear y0 y1 e1
                      have K8 := Lib.hid hkN
                      have H9 := Lib.hid (hkN.heap H8.out id)
                      have HK8b := Lib.hid (HK8.out.tr hkN)
                      have HOWN9 := Lib.hid (own_kp HOWN8.out hkN fun _ _ e => e)
                      have HXO9 := Lib.hid (HXO8.out.no hkN)
                      have HKW9 := Lib.hid (HKW8.out.tr hkN)
                      have HALL9 := Lib.hid (fun x (hx : x ∈ L) => (HALL8.out x hx).no hkN)
                      clear hkN x0 x1 dk dk'
                      clear HK8 HOWN8 HXO8 HKW8 HALL8 H8
                      obtain ⟨wr, rfl⟩ : ∃ wr, wr = w8 := ⟨_, rfl⟩
                      have HK8 := HK8b
                      have HOWN8 := HOWN9
                      have HXO8 := HXO9
                      have HKW8 := HKW9
                      have HALL8 := HALL9
                      have H8 := H9
                      clear HK8b HOWN9 HXO9 HKW9 HALL9 H9
                      obtain ⟨x0, x1, _, _⟩ := cell_head H8.out
                      obtain ⟨i0, hi0, hz0, hz1, hz2⟩ := info_parts infoC
                      have hm10 : m ≤ 1024 := by omega
                      go_wp2_with fail
                      have HXL := Lib.hid (show ((L.take pa).flatMap Cv.cells).length = pa * 2 by rw [flat_len cv_len, List.length_take, ← HM.out, Nat.min_eq_left ha])
                      have HON := Lib.hid (show ∀ u ∈ [Value.slice D1 l1 d1, Value.slice D2 l2 d2] ++ (L.drop pa).flatMap Cv.cells, u.oneCell' = true from fun u hu => by
                        rcases List.mem_append.1 hu with h | h
                        · simp at h; rcases h with rfl | rfl <;> rfl
                        · exact cvs_one _ u h)
                      have HXN := Lib.hid (show ∀ W, Kp No wr W → ∀ ad, some (⟨gD, 0, none⟩ : Addr) = some ad → ∀ j u, ((L.take pa).flatMap Cv.cells)[j]? = some u → W.cell? (ad.add j) = some u from fun W k ad h j u hj => by
                        cases h
                        rw [add_at, Nat.zero_add]
                        refine k.cell (own_cell HOWN8.out ?_) id
                        have hlt := (List.getElem?_eq_some_iff.1 hj).1
                        rw [← List.take_append_drop pa L, List.flatMap_append, List.getElem?_append_left hlt]
                        exact hj)
                      have HLEN := Lib.hid (show (L.take pa ++ (⟨D1, l1, d1, D2, l2, d2, ⟨numB s n, numB sk KK⟩⟩ : Cv) :: L.drop pa).length = pa + (1 + (m - pa)) by rw [List.length_append, List.length_cons, List.length_take, List.length_drop, ← HM.out]; omega)
                      have HYL := Lib.hid (show ((L.drop pa).flatMap Cv.cells).length = (m - pa) * 2 by rw [flat_len cv_len, List.length_drop, ← HM.out])
                      obtain ⟨_, c9, hc9, hmc, hcm, _⟩ := own_form HOWN8.out
                      have hcc9 := (Value.slice.inj hc9).2.2
                      rw [← hcc9] at hmc hcm
                      unfold maxLen at hcm
                      clear hc9 hcc9
                      by_cases hca : c = pa
                      · have HCE2 := Lib.hid (show m = pa ∧ c = pa from ⟨by omega, hca⟩)
                        clear hca
                        have HYN := Lib.hid (show ∀ W, Kp No wr W → ∀ ad, some (⟨gD, 0, none⟩ : Addr) = some ad → ∀ j u, ((L.drop pa).flatMap Cv.cells)[j]? = some u → W.cell? (ad.add j) = some u from fun W k ad h j u hj => by
                          have hlt := (List.getElem?_eq_some_iff.1 hj).1
                          rw [HYL.out] at hlt
                          have := HCE2.out
                          omega)
                        refine wp_region_each (fun ix uR => match ix with | 0 => uR = .slice (some ⟨gD, 0, none⟩) m c | 1 => uR = .int .i64 (pa : Nat) | 2 => uR = .int .i64 (pa : Nat) | 3 => uR = .slice (some ⟨gD, 0, none⟩) pa pa | 4 => uR = .agg #[.slice D1 l1 d1, .slice D2 l2 d2] | 6 => uR = .slice (some ⟨gD, 0, none⟩) m c | 7 => uR = .int .i64 (pa : Nat) | 8 => uR = .slice (some ⟨gD, 0, none⟩) (m - pa) 0 | _ => True) (fun r w' => InW wr ((L.take pa).flatMap Cv.cells) [.slice D1 l1 d1, .slice D2 l2 d2] ((L.drop pa).flatMap Cv.cells) (1 + (m - pa)) (pa + (1 + (m - pa))) r w') (by kernel_rfl) (by kernel_rfl) (by kernel_rfl) ?_ ?_ ?_
                        · exact InW.start
                        · refine ⟨?_, ?_, ?_, ?_, ?_, ?_, ?_, ?_, ?_, ?_, ?_, ?_, trivial⟩
                          · intro r a w' hf hg hW hr hd K hK
                            refine wpOp_of rfl rfl ?_
                            have e0 : a.tmps.getD 9 undef = .slice (some ⟨gD, 0, none⟩) m c := hf.evalYet (hW.yet0 hr) (by kernel_rfl)
                            go_simp
                            exact hK _ _ rfl (hW.upd 0 _ (by decide) (by decide) (by decide) (by decide) (fun e => absurd e (by decide)) (fun e => absurd e (by decide)))
                          · intro r a w' hf hg hW hr hd K hK
                            refine wpOp_of rfl rfl ?_
                            have e0 : a.tmps.getD 14 undef = .int .i64 (pa : Nat) := hf.evalFree (by kernel_rfl)
                            go_simp
                            exact hK _ _ rfl (hW.upd 1 _ (by decide) (by decide) (by decide) (by decide) (fun e => absurd e (by decide)) (fun e => absurd e (by decide)))
                          · intro r a w' hf hg hW hr hd K hK
                            refine wpOp_of rfl rfl ?_
                            have e0 : a.tmps.getD 14 undef = .int .i64 (pa : Nat) := hf.evalFree (by kernel_rfl)
                            go_simp
                            exact hK _ _ rfl (hW.upd 2 _ (by decide) (by decide) (by decide) (by decide) (fun e => absurd e (by decide)) (fun e => absurd e (by decide)))
                          · intro r a w' hf hg hW hr hd K hK
                            refine wpOp_of rfl rfl ?_
                            refine hf.depE hg hd 0 115 (by kernel_rfl) fun u0 e0 g0 h0 => ?_
                            replace g0 : u0 = .slice (some ⟨gD, 0, none⟩) m c := g0
                            subst g0
                            refine hf.depE hg hd 1 116 (by kernel_rfl) fun u1 e1 g1 h1 => ?_
                            replace g1 : u1 = .int .i64 (pa : Nat) := g1
                            subst g1
                            refine hf.depE hg hd 2 117 (by kernel_rfl) fun u2 e2 g2 h2 => ?_
                            replace g2 : u2 = .int .i64 (pa : Nat) := g2
                            subst g2
                            go_simp
                            rw [if_pos (show pa ≤ c by omega)]
                            exact hK _ _ rfl (hW.upd 3 _ (by decide) (by decide) (by decide) (by decide) (fun e => absurd e (by decide)) (fun _ => by rw [h0]; simp))
                          · intro r a w' hf hg hW hr hd K hK
                            refine wpOp_of rfl rfl ?_
                            have e0 : a.tmps.getD 13 undef = .pointer (some ⟨gc, 0, none⟩) := hf.evalFree (by kernel_rfl)
                            have z0 := hW.kp.cell x0 id
                            have z1 := hW.kp.cell x1 id
                            go_simp
                            exact hK _ _ rfl (hW.upd 4 _ (by decide) (by decide) (by decide) (by decide) (fun e => absurd e (by decide)) (fun e => absurd e (by decide)))
                          · intro r a w' hf hg hW hr hd K hK
                            refine wpOp_of rfl rfl ?_
                            refine hf.depE hg hd 4 119 (by kernel_rfl) fun u0 e0 g0 h0 => ?_
                            replace g0 : u0 = .agg #[.slice D1 l1 d1, .slice D2 l2 d2] := g0
                            subst g0
                            have e0' := get_of_getD e0
                            go_simp
                            exact hK _ _ trivial (hW.put5 hr rfl rfl)
                          · intro r a w' hf hg hW hr hd K hK
                            refine wpOp_of rfl rfl ?_
                            have e0 : a.tmps.getD 9 undef = .slice (some ⟨gD, 0, none⟩) m c := hf.evalYet (hW.yet6 hr) (by kernel_rfl)
                            go_simp
                            exact hK _ _ rfl (hW.upd 6 _ (by decide) (by decide) (by decide) (by decide) (fun e => absurd e (by decide)) (fun e => absurd e (by decide)))
                          · intro r a w' hf hg hW hr hd K hK
                            refine wpOp_of rfl rfl ?_
                            have e0 : a.tmps.getD 14 undef = .int .i64 (pa : Nat) := hf.evalFree (by kernel_rfl)
                            go_simp
                            exact hK _ _ rfl (hW.upd 7 _ (by decide) (by decide) (by decide) (by decide) (fun e => absurd e (by decide)) (fun e => absurd e (by decide)))
                          · intro r a w' hf hg hW hr hd K hK
                            refine wpOp_of rfl rfl ?_
                            refine hf.depE hg hd 6 121 (by kernel_rfl) fun u0 e0 g0 h0 => ?_
                            replace g0 : u0 = .slice (some ⟨gD, 0, none⟩) m c := g0
                            subst g0
                            refine hf.depE hg hd 7 122 (by kernel_rfl) fun u1 e1 g1 h1 => ?_
                            replace g1 : u1 = .int .i64 (pa : Nat) := g1
                            subst g1
                            go_simp
                            rw [if_pos HCE2.out.2, show c - pa = 0 by have := HCE2.out; omega]
                            exact hK _ _ rfl (hW.upd 8 _ (by decide) (by decide) (by decide) (by decide) (fun _ => by rw [h0]; simp) (fun e => absurd e (by decide)))
                          · intro r a w' hf hg hW hr hd K hK
                            refine wpOp_of rfl rfl ?_
                            refine hf.depE hg hd 5 120 (by kernel_rfl) fun u0 e0 g0 h0 => ?_
                            refine hf.depE hg hd 8 123 (by kernel_rfl) fun u1 e1 g1 h1 => ?_
                            replace g1 : u1 = .slice (some ⟨gD, 0, none⟩) (m - pa) 0 := g1
                            subst g1
                            have ho := hW.c5 u0 h0 hr
                            refine wpo_append_nil (.tmp 120) (.tmp 123) 46 rfl wr.heap.size 30 i0 _ 2 48 Tryz.underlying46 hi0 hz0 hz1 hz2 rfl (by decide) u0 1 [.slice D1 l1 d1, .slice D2 l2 d2] e0 ho (some ⟨gD, 0, none⟩) (m - pa) 0 ((L.drop pa).flatMap Cv.cells) e1 HYL.out (by simp) (HYN.out _ hW.kp) (cvs_one _) (by unfold maxLen; omega) (by omega) hW.kp.size (fun v' w'' ho2 hgr _ => ?_)
                            exact hK _ _ trivial (hW.put9 hr (by rw [h0]; simp) (by rw [h1]; simp) ho ho2 hgr)
                          · intro r a w' hf hg hW hr hd K hK
                            refine wpOp_of rfl rfl ?_
                            refine hf.depE hg hd 3 118 (by kernel_rfl) fun u0 e0 g0 h0 => ?_
                            replace g0 : u0 = .slice (some ⟨gD, 0, none⟩) pa pa := g0
                            subst g0
                            refine hf.depE hg hd 9 124 (by kernel_rfl) fun u1 e1 g1 h1 => ?_
                            have ho9 := hW.c9 u1 h1 hr
                            obtain ⟨A9, cp9, hu9, _, _, hg9⟩ := own_form ho9
                            obtain ⟨g9, hg9⟩ := hg9 (by omega)
                            subst hg9
                            subst hu9
                            refine wpo_append_full (.tmp 118) (.tmp 124) 46 rfl 30 i0 _ 2 48 Tryz.underlying46 hi0 hz0 hz1 hz2 rfl (by decide) (some ⟨gD, 0, none⟩) pa ((L.take pa).flatMap Cv.cells) e0 HXL.out (HXN.out _ hW.kp) (fun h => by cases h) ⟨g9, 0, none⟩ (1 + (m - pa)) cp9 ([.slice D1 l1 d1, .slice D2 l2 d2] ++ (L.drop pa).flatMap Cv.cells) e1 ho9.1 (fun j u hj => by rw [add_at, Nat.zero_add]; exact own_cell ho9 hj) HON.out (by omega) (by unfold maxLen; omega) (by omega) (fun v' w'' ho2 k2 => ?_)
                            exact hK _ _ trivial (hW.put10 hr (by rw [h1]; simp) (by rw [h0]; simp) (own_mono ho2 hW.kp.size) k2)
                          · intro r a w' hf hg hW hr hd K hK
                            refine wpOp_of rfl rfl ?_
                            refine hf.depE hg hd 10 125 (by kernel_rfl) fun u0 e0 g0 h0 => ?_
                            obtain ⟨A9, cp9, hu9, _⟩ := own_form (hW.c10 u0 h0)
                            subst hu9
                            have h0x := h0
                            go_simp
                            exact hK _ _ trivial (hW.put11 h0x)
                        intro r' w9 hg hW hr'
                        obtain ⟨q11, hq11⟩ : ∃ u, r' 11 = some u := Option.ne_none_iff_exists'.1 (hr' 11 (by decide))
                        simp only [List.length_cons, List.length_nil, Nat.reduceAdd, List.range_succ, List.range_zero, List.nil_append, List.cons_append, List.map_cons, List.map_nil, putAll, Act.put, List.setIfInBounds_toArray, List.set_cons_succ, List.set_cons_zero, hq11, Option.getD_some]
                        have hq := hW.c11 q11 hq11
                        have hnew := hW.c10 q11 hq
                        have hkN := hW.kp
                        obtain ⟨A9, cp9, hu9, _⟩ := own_form hnew
                        subst hu9
                        clear hg hW hr' hq11 hq
                        have HNEW := Lib.hid hnew
                        have HKN := Lib.hid (HKW8.out.tr hkN)
                        have HAN := Lib.hid (show ∀ x ∈ L.take pa ++ ⟨D1, l1, d1, D2, l2, d2, ⟨numB s n, numB sk KK⟩⟩ :: L.drop pa, CvO w9 w3.heap.size x from fun x hx => by
                          rcases List.mem_append.1 hx with h | h
                          · exact (HALL8.out x (List.mem_of_mem_take h)).no hkN
                          · rcases List.mem_cons.1 h with rfl | h
                            · exact HXO8.out.no hkN
                            · exact (HALL8.out x (List.mem_of_mem_drop h)).no hkN)
                        have hw38 := HKW8.out.size
                        have HW38 := Lib.hid hw38
                        clear hkN hnew x0 x1 hw38
                        go_wp2_with fail
                        go_roundw
                        case rel =>
                          refine ⟨s + 1, L.take pa ++ ⟨D1, l1, d1, D2, l2, d2, ⟨numB s n, numB sk KK⟩⟩ :: L.drop pa, A9, cp9, by omega, by go_num, ?_, ?_, ?_, HAN.out, ?_, HKN.out⟩
                          · rw [show (L.take pa ++ (⟨D1, l1, d1, D2, l2, d2, ⟨numB s n, numB sk KK⟩⟩ : Cv) :: L.drop pa).length = pa + (1 + (m - pa)) from HLEN.out]
                          · have h := RefO.put HSN.out HREF.out HLQ.out.symm (at_ := pa) (by rw [List.length_map, ← HM.out]; exact ha) (by rcases HLO.out with h | h; exact .inl h; exact .inr (by omega)) (fun i h1 h2 => HHI.out i h1 (by rwa [List.length_map] at h2))
                            rw [HCE.out] at h
                            rw [List.map_append, List.map_cons, List.map_take, List.map_drop]
                            exact h
                          · rw [HLEN.out]
                            have h := own_mono HNEW.out HW38.out
                            rw [List.flatMap_append, List.flatMap_cons]
                            exact h
                          · rw [HLEN.out]; omega
                        case measure => simp [intOf]; omega
                      · have HYN := Lib.hid (show ∀ W, Kp No wr W → ∀ ad, some (⟨gD, pa * 2, none⟩ : Addr) = some ad → ∀ j u, ((L.drop pa).flatMap Cv.cells)[j]? = some u → W.cell? (ad.add j) = some u from fun W k ad h j u hj => by
                          cases h
                          rw [add_at]
                          refine k.cell (own_cell HOWN8.out ?_) id
                          rw [← List.take_append_drop pa L, List.flatMap_append, List.getElem?_append_right (by rw [HXL.out]; omega), HXL.out, show pa * 2 + j - pa * 2 = j by omega]
                          exact hj)
                        refine wp_region_each (fun ix uR => match ix with | 0 => uR = .slice (some ⟨gD, 0, none⟩) m c | 1 => uR = .int .i64 (pa : Nat) | 2 => uR = .int .i64 (pa : Nat) | 3 => uR = .slice (some ⟨gD, 0, none⟩) pa pa | 4 => uR = .agg #[.slice D1 l1 d1, .slice D2 l2 d2] | 6 => uR = .slice (some ⟨gD, 0, none⟩) m c | 7 => uR = .int .i64 (pa : Nat) | 8 => uR = .slice (some ⟨gD, pa * 2, none⟩) (m - pa) (c - pa) | _ => True) (fun r w' => InW wr ((L.take pa).flatMap Cv.cells) [.slice D1 l1 d1, .slice D2 l2 d2] ((L.drop pa).flatMap Cv.cells) (1 + (m - pa)) (pa + (1 + (m - pa))) r w') (by kernel_rfl) (by kernel_rfl) (by kernel_rfl) ?_ ?_ ?_
                        · exact InW.start
                        · refine ⟨?_, ?_, ?_, ?_, ?_, ?_, ?_, ?_, ?_, ?_, ?_, ?_, trivial⟩
                          · intro r a w' hf hg hW hr hd K hK
                            refine wpOp_of rfl rfl ?_
                            have e0 : a.tmps.getD 9 undef = .slice (some ⟨gD, 0, none⟩) m c := hf.evalYet (hW.yet0 hr) (by kernel_rfl)
                            go_simp
                            exact hK _ _ rfl (hW.upd 0 _ (by decide) (by decide) (by decide) (by decide) (fun e => absurd e (by decide)) (fun e => absurd e (by decide)))
                          · intro r a w' hf hg hW hr hd K hK
                            refine wpOp_of rfl rfl ?_
                            have e0 : a.tmps.getD 14 undef = .int .i64 (pa : Nat) := hf.evalFree (by kernel_rfl)
                            go_simp
                            exact hK _ _ rfl (hW.upd 1 _ (by decide) (by decide) (by decide) (by decide) (fun e => absurd e (by decide)) (fun e => absurd e (by decide)))
                          · intro r a w' hf hg hW hr hd K hK
                            refine wpOp_of rfl rfl ?_
                            have e0 : a.tmps.getD 14 undef = .int .i64 (pa : Nat) := hf.evalFree (by kernel_rfl)
                            go_simp
                            exact hK _ _ rfl (hW.upd 2 _ (by decide) (by decide) (by decide) (by decide) (fun e => absurd e (by decide)) (fun e => absurd e (by decide)))
                          · intro r a w' hf hg hW hr hd K hK
                            refine wpOp_of rfl rfl ?_
                            refine hf.depE hg hd 0 115 (by kernel_rfl) fun u0 e0 g0 h0 => ?_
                            replace g0 : u0 = .slice (some ⟨gD, 0, none⟩) m c := g0
                            subst g0
                            refine hf.depE hg hd 1 116 (by kernel_rfl) fun u1 e1 g1 h1 => ?_
                            replace g1 : u1 = .int .i64 (pa : Nat) := g1
                            subst g1
                            refine hf.depE hg hd 2 117 (by kernel_rfl) fun u2 e2 g2 h2 => ?_
                            replace g2 : u2 = .int .i64 (pa : Nat) := g2
                            subst g2
                            go_simp
                            rw [if_pos (show pa ≤ c by omega)]
                            exact hK _ _ rfl (hW.upd 3 _ (by decide) (by decide) (by decide) (by decide) (fun e => absurd e (by decide)) (fun _ => by rw [h0]; simp))
                          · intro r a w' hf hg hW hr hd K hK
                            refine wpOp_of rfl rfl ?_
                            have e0 : a.tmps.getD 13 undef = .pointer (some ⟨gc, 0, none⟩) := hf.evalFree (by kernel_rfl)
                            have z0 := hW.kp.cell x0 id
                            have z1 := hW.kp.cell x1 id
                            go_simp
                            exact hK _ _ rfl (hW.upd 4 _ (by decide) (by decide) (by decide) (by decide) (fun e => absurd e (by decide)) (fun e => absurd e (by decide)))
                          · intro r a w' hf hg hW hr hd K hK
                            refine wpOp_of rfl rfl ?_
                            refine hf.depE hg hd 4 119 (by kernel_rfl) fun u0 e0 g0 h0 => ?_
                            replace g0 : u0 = .agg #[.slice D1 l1 d1, .slice D2 l2 d2] := g0
                            subst g0
                            have e0' := get_of_getD e0
                            go_simp
                            exact hK _ _ trivial (hW.put5 hr rfl rfl)
                          · intro r a w' hf hg hW hr hd K hK
                            refine wpOp_of rfl rfl ?_
                            have e0 : a.tmps.getD 9 undef = .slice (some ⟨gD, 0, none⟩) m c := hf.evalYet (hW.yet6 hr) (by kernel_rfl)
                            go_simp
                            exact hK _ _ rfl (hW.upd 6 _ (by decide) (by decide) (by decide) (by decide) (fun e => absurd e (by decide)) (fun e => absurd e (by decide)))
                          · intro r a w' hf hg hW hr hd K hK
                            refine wpOp_of rfl rfl ?_
                            have e0 : a.tmps.getD 14 undef = .int .i64 (pa : Nat) := hf.evalFree (by kernel_rfl)
                            go_simp
                            exact hK _ _ rfl (hW.upd 7 _ (by decide) (by decide) (by decide) (by decide) (fun e => absurd e (by decide)) (fun e => absurd e (by decide)))
                          · intro r a w' hf hg hW hr hd K hK
                            refine wpOp_of rfl rfl ?_
                            refine hf.depE hg hd 6 121 (by kernel_rfl) fun u0 e0 g0 h0 => ?_
                            replace g0 : u0 = .slice (some ⟨gD, 0, none⟩) m c := g0
                            subst g0
                            refine hf.depE hg hd 7 122 (by kernel_rfl) fun u1 e1 g1 h1 => ?_
                            replace g1 : u1 = .int .i64 (pa : Nat) := g1
                            subst g1
                            go_simp
                            exact hK _ _ rfl (hW.upd 8 _ (by decide) (by decide) (by decide) (by decide) (fun _ => by rw [h0]; simp) (fun e => absurd e (by decide)))
                          · intro r a w' hf hg hW hr hd K hK
                            refine wpOp_of rfl rfl ?_
                            refine hf.depE hg hd 5 120 (by kernel_rfl) fun u0 e0 g0 h0 => ?_
                            refine hf.depE hg hd 8 123 (by kernel_rfl) fun u1 e1 g1 h1 => ?_
                            replace g1 : u1 = .slice (some ⟨gD, pa * 2, none⟩) (m - pa) (c - pa) := g1
                            subst g1
                            have ho := hW.c5 u0 h0 hr
                            refine wpo_append_nil (.tmp 120) (.tmp 123) 46 rfl wr.heap.size 30 i0 _ 2 48 Tryz.underlying46 hi0 hz0 hz1 hz2 rfl (by decide) u0 1 [.slice D1 l1 d1, .slice D2 l2 d2] e0 ho (some ⟨gD, pa * 2, none⟩) (m - pa) (c - pa) ((L.drop pa).flatMap Cv.cells) e1 HYL.out (by simp) (HYN.out _ hW.kp) (cvs_one _) (by unfold maxLen; omega) (by omega) hW.kp.size (fun v' w'' ho2 hgr _ => ?_)
                            exact hK _ _ trivial (hW.put9 hr (by rw [h0]; simp) (by rw [h1]; simp) ho ho2 hgr)
                          · intro r a w' hf hg hW hr hd K hK
                            refine wpOp_of rfl rfl ?_
                            refine hf.depE hg hd 3 118 (by kernel_rfl) fun u0 e0 g0 h0 => ?_
                            replace g0 : u0 = .slice (some ⟨gD, 0, none⟩) pa pa := g0
                            subst g0
                            refine hf.depE hg hd 9 124 (by kernel_rfl) fun u1 e1 g1 h1 => ?_
                            have ho9 := hW.c9 u1 h1 hr
                            obtain ⟨A9, cp9, hu9, _, _, hg9⟩ := own_form ho9
                            obtain ⟨g9, hg9⟩ := hg9 (by omega)
                            subst hg9
                            subst hu9
                            refine wpo_append_full (.tmp 118) (.tmp 124) 46 rfl 30 i0 _ 2 48 Tryz.underlying46 hi0 hz0 hz1 hz2 rfl (by decide) (some ⟨gD, 0, none⟩) pa ((L.take pa).flatMap Cv.cells) e0 HXL.out (HXN.out _ hW.kp) (fun h => by cases h) ⟨g9, 0, none⟩ (1 + (m - pa)) cp9 ([.slice D1 l1 d1, .slice D2 l2 d2] ++ (L.drop pa).flatMap Cv.cells) e1 ho9.1 (fun j u hj => by rw [add_at, Nat.zero_add]; exact own_cell ho9 hj) HON.out (by omega) (by unfold maxLen; omega) (by omega) (fun v' w'' ho2 k2 => ?_)
                            exact hK _ _ trivial (hW.put10 hr (by rw [h1]; simp) (by rw [h0]; simp) (own_mono ho2 hW.kp.size) k2)
                          · intro r a w' hf hg hW hr hd K hK
                            refine wpOp_of rfl rfl ?_
                            refine hf.depE hg hd 10 125 (by kernel_rfl) fun u0 e0 g0 h0 => ?_
                            obtain ⟨A9, cp9, hu9, _⟩ := own_form (hW.c10 u0 h0)
                            subst hu9
                            have h0x := h0
                            go_simp
                            exact hK _ _ trivial (hW.put11 h0x)
                        intro r' w9 hg hW hr'
                        obtain ⟨q11, hq11⟩ : ∃ u, r' 11 = some u := Option.ne_none_iff_exists'.1 (hr' 11 (by decide))
                        simp only [List.length_cons, List.length_nil, Nat.reduceAdd, List.range_succ, List.range_zero, List.nil_append, List.cons_append, List.map_cons, List.map_nil, putAll, Act.put, List.setIfInBounds_toArray, List.set_cons_succ, List.set_cons_zero, hq11, Option.getD_some]
                        have hq := hW.c11 q11 hq11
                        have hnew := hW.c10 q11 hq
                        have hkN := hW.kp
                        obtain ⟨A9, cp9, hu9, _⟩ := own_form hnew
                        subst hu9
                        clear hg hW hr' hq11 hq
                        have HNEW := Lib.hid hnew
                        have HKN := Lib.hid (HKW8.out.tr hkN)
                        have HAN := Lib.hid (show ∀ x ∈ L.take pa ++ ⟨D1, l1, d1, D2, l2, d2, ⟨numB s n, numB sk KK⟩⟩ :: L.drop pa, CvO w9 w3.heap.size x from fun x hx => by
                          rcases List.mem_append.1 hx with h | h
                          · exact (HALL8.out x (List.mem_of_mem_take h)).no hkN
                          · rcases List.mem_cons.1 h with rfl | h
                            · exact HXO8.out.no hkN
                            · exact (HALL8.out x (List.mem_of_mem_drop h)).no hkN)
                        have hw38 := HKW8.out.size
                        have HW38 := Lib.hid hw38
                        clear hkN hnew x0 x1 hw38
                        go_wp2_with fail
                        go_roundw
                        case rel =>
                          refine ⟨s + 1, L.take pa ++ ⟨D1, l1, d1, D2, l2, d2, ⟨numB s n, numB sk KK⟩⟩ :: L.drop pa, A9, cp9, by omega, by go_num, ?_, ?_, ?_, HAN.out, ?_, HKN.out⟩
                          · rw [show (L.take pa ++ (⟨D1, l1, d1, D2, l2, d2, ⟨numB s n, numB sk KK⟩⟩ : Cv) :: L.drop pa).length = pa + (1 + (m - pa)) from HLEN.out]
                          · have h := RefO.put HSN.out HREF.out HLQ.out.symm (at_ := pa) (by rw [List.length_map, ← HM.out]; exact ha) (by rcases HLO.out with h | h; exact .inl h; exact .inr (by omega)) (fun i h1 h2 => HHI.out i h1 (by rwa [List.length_map] at h2))
                            rw [HCE.out] at h
                            rw [List.map_append, List.map_cons, List.map_take, List.map_drop]
                            exact h
                          · rw [HLEN.out]
                            have h := own_mono HNEW.out HW38.out
                            rw [List.flatMap_append, List.flatMap_cons]
                            exact h
                          · rw [HLEN.out]; omega
                        case measure => simp [intOf]; omega
        · obtain rfl : s = T := by omega
          have HLC := Lib.hid (show L.map Cv.c = leaC l.length (keysN l) (starC N l) by
            have h := HREF.out
            rw [HT.out, HNK.out] at h
            have h2 := RefO.all HUP2.out h
            rw [HSK.out.1, HSK.out.2, ← HP.out]
            exact h2)
          have HW2 := Lib.hid (show w.heap.size ≤ w3.heap.size by have := HK.out.size; have := HKW.out.size; omega)
          have HLM := Lib.hid (show m = (leaC l.length (keysN l) (starC N l)).length by rw [← HLC.out, List.length_map, HM.out])
          by_cases h200 : 200 < m
          · have d2 : decide ((200 : Int) < (m : Int)) = true := decide_eq_true (by omega)
            go_wp2_with fail
            refine bodyPost_ret (v := .tuple #[.slice none 0 0, .int .i64 5]) (by simp [results, Tryz.results17, go_sem]) rfl ?_
            refine ⟨HK.out.tr (HKW.out.tr HKP3.out), .slice none 0 0, ?_, .inl ⟨by rw [← HLM.out]; exact h200, rfl⟩⟩
            unfold leaE
            rw [if_pos (by rw [← HLM.out]; exact h200)]
          · have d2 : decide ((200 : Int) < (m : Int)) = false := decide_eq_false (by omega)
            go_wp2_with fail
            refine bodyPost_ret (v := .tuple #[.slice D m c, .int .i64 0]) (by simp [results, Tryz.results17, go_sem]) rfl ?_
            refine ⟨HK.out.tr (HKW.out.tr HKP3.out), .slice D m c, ?_, .inr ⟨by rw [← HLM.out]; omega, L, HLC.out, ?_, fun x hx => (HALL.out x hx).mono HW2.out⟩⟩
            · unfold leaE
              rw [if_neg (by rw [← HLM.out]; exact h200)]
            · rw [← HM.out]
              exact own_mono HOWN.out HW2.out
end Go.Proofs.YtpkbpeeelpgmcaaGreat
