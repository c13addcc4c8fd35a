/- Great numbers by limbs: Root with exponent 2, Pow with exponent 2: walks. · Spans of fractions: Root with exponent 2: the walk. · Spans of fractions: bad of two. -/
import Derived.Test.YtamjhpdgclbfgaaGreatXNuaM
import Derived.Test.YtamjhpdgclbfgaaGreatXNuc
import Derived.Test.YtamjhpdgclbfgaaGreatXNtxM
import Derived.Test.YtamjhpdgclbfgaaGreatXNtt
namespace Go.Proofs.YtamjhpdgclbfgaaGreat
open Go.RowKit Go.Kq

theorem sq_lt_of {r P x : Nat} (h : x < (r + 2 * P) * (r + 2 * P)) (_h2 : ¬ x < (r + P) * (r + P)) : x < (r + P + P) * (r + P + P) := by
  rw [show r + P + P = r + 2 * P by omega]
  exact h
theorem lt_of_sq {r B x : Nat} (h : r * r ≤ x) (hx : x < B * B) : r < B :=
  Nat.lt_of_not_le fun hle => by
    have := Nat.mul_le_mul hle hle
    omega
set_option maxHeartbeats 1000000 in
set_option maxRecDepth 100000 in
theorem root_two (v : Value) (x k : Nat) (w : World) (hv : IsNat w v x k) (hx : x < 18446744073709551616) :
    Calls Tryz.prog 46 #[v, .int .i64 2] w fun e w' => ∃ z r, e = .returned (.tuple #[z, .int .i64 0]) ∧ IsNat w' z r 3 ∧ r * r ≤ x ∧ x < (r + 1) * (r + 1) ∧ Kp No w w' := by
  have hv2 : IsNat w v x 2 := hv.tight (by unfold BB; omega)
  have hv1 : IsNat w v x 300 := hv2.le (by omega)
  have BD := Lib.hid (fun (g : Nat) (w0 : World) (hc : w0.cell? ⟨g, 0, none⟩ = some v) (hk : Kp No w w0) => bad_is g 1 1 [(v, x)] w0 rfl (by omega) (fun i y hy => by
    match i, hy with
    | 0, hy => simp at hy; subst hy; exact ⟨hc, hv1.no hk⟩
    | i + 1, hy => simp at hy))
  have HV := Lib.hid hv2
  have OR := Lib.hid (fun (z : Value) (y : Nat) (w0 : World) (hz : IsNat w0 z y 10) (hk : Kp No w w0) => order_is z v y x 10 2 w0 hz (hv2.no hk) (by omega) (by omega))
  obtain ⟨A, n, c, l, rfl, ha, hl, hn, _⟩ := hv2.pos
  have SZ := Lib.hid (fun w0 (h : Kp No w w0) => size_num A n c l w0 (ha.no h) (by omega))
  rw [hl] at SZ
  have KA := Lib.hid (Kp.alloc No w (.cells #[.slice A n c] 74))
  have HA0 := Lib.hid (show (w.alloc (.cells #[.slice A n c] 74)).cell? ⟨w.heap.size, 0, none⟩ = some (.slice A n c) by rw [cell_of_row _ _ _ _ _ _ (heap_alloc_new w _)]; rfl)
  clear hv hv1 hv2 ha hl
  go_enter Tryz.func46, Tryz.ntmps46
  go_wp2_with fail
  refine (BD.out _ _ HA0.out KA.out).mono ?_
  rintro _ w1 ⟨rfl, rfl⟩
  clear BD HA0
  go_wp2_with fail
  refine (SZ.out _ KA.out).mono ?_
  rintro _ w1 ⟨s, rfl, hs0, hs1, k1⟩
  have K1 := Lib.hid (KA.out.tr k1)
  have t1 : (s : Int).tdiv 2 = ((s / 2 : Nat) : Int) := by rw [Int.tdiv_eq_ediv_of_nonneg (by omega)]; omega
  have t2 : (s : Int) / 2 = ((s / 2 : Nat) : Int) := by omega
  have t3 : IntKind.i64.wrap ((s / 2 : Nat) : Int) = ((s / 2 : Nat) : Int) := by rw [IntKind.wrap_i64]; omega
  have hm : s / 2 ≤ 32 := by omega
  have HS := Lib.hid (show x < (0 + 2 ^ (s / 2 + 1)) * (0 + 2 ^ (s / 2 + 1)) by
    rw [Nat.zero_add, ← Nat.pow_add]
    exact Nat.lt_of_lt_of_le hs0 (Nat.pow_le_pow_right (by omega) (by omega)))
  clear hs0 hs1 k1 KA
  obtain ⟨M, hM⟩ : ∃ M, M = s / 2 := ⟨_, rfl⟩
  rw [← hM] at t1 t2 t3 hm HS
  clear hM
  go_wp2_with fail
  go_loopw [7, 8] (fun r i wr => ∃ (m R : Nat) (rv : Value), rv = r ∧ i = .int .i64 ((m : Int) - 1) ∧ m ≤ 33 ∧ IsNat wr r R 3 ∧ R * R ≤ x ∧ x < (R + 2 ^ m) * (R + 2 ^ m) ∧ Kp No w wr) (fun _ i _ => (intOf i + 1).toNat)
  case atStart => exact ⟨M + 1, 0, _, rfl, by congr 1; omega, by omega, (IsNat.nil _).le (by omega), by omega, HS.out, K1.out⟩
  case round =>
    obtain ⟨m, R, r, rfl, rfl, hm, hr, hR, hR2, hkp⟩ := hrel
    have HR := Lib.hid hr
    have H1 := Lib.hid hR
    have H2 := Lib.hid hR2
    have KP := Lib.hid hkp
    clear hr hR hR2 hkp
    by_cases hpos : 0 < m
    · obtain ⟨i, rfl⟩ : ∃ i, m = i + 1 := ⟨m - 1, by omega⟩
      rw [show (((i + 1 : Nat) : Int) - 1) = (i : Int) by omega]
      have hi0 : (0 : Int) ≤ (i : Int) := by omega
      have hi1 : IntKind.i64.wrap ((i : Int) - 1) = (i : Int) - 1 := by rw [IntKind.wrap_i64]; omega
      have O1 := Lib.hid (of_any 1 wr (by omega))
      go_wp2_with fail
      refine O1.out.mono ?_
      rintro _ w2 ⟨o1, rfl, ho1, k2⟩
      have K2 := Lib.hid (KP.out.tr k2)
      have HR2 := Lib.hid (HR.out.no k2)
      have S1 := Lib.hid (shift_one o1 i 2 w2 ho1.1 (by omega))
      clear ho1 k2 O1
      go_wp2_with fail
      refine S1.out.mono ?_
      rintro _ w3 ⟨o2, rfl, ho2, k3⟩
      have K3 := Lib.hid (K2.out.tr k3)
      have P1 := Lib.hid (plus_new r o2 R (2 ^ i) 3 3 7 w3 (HR2.out.no k3) ho2.1 (by omega) (by omega) (by omega))
      have HR3 := Lib.hid (HR2.out.no k3)
      clear ho2 k3 S1
      go_wp2_with fail
      refine P1.out.mono ?_
      rintro _ w4 ⟨y, rfl, hy, k4⟩
      have K4 := Lib.hid (K3.out.tr k4)
      have HR4 := Lib.hid (HR3.out.no k4)
      have hb : R + 2 ^ i < BB ^ 3 := by
        have h1 : R < 4294967296 := lt_of_sq H1.out (by omega)
        have h2 : 2 ^ i ≤ 2 ^ 32 := Nat.pow_le_pow_right (by omega) (by omega)
        have h3 : BB ^ 3 = 79228162514264337593543950336 := by unfold BB; rfl
        omega
      have HY := Lib.hid (hy.1.tight hb)
      have W1 := Lib.hid (power_two y (R + 2 ^ i) 3 w4 HY.out (by omega))
      clear hy k4 P1 hb
      go_wp2_with fail
      refine W1.out.mono ?_
      rintro _ w5 ⟨z, rfl, hz, k5⟩
      have K5 := Lib.hid (K4.out.tr k5)
      have HR5 := Lib.hid (HR4.out.no k5)
      have HY5 := Lib.hid (HY.out.no k5)
      have OZ := Lib.hid (OR.out z _ w5 hz.1 K5.out)
      clear hz k5 W1
      go_wp2_with fail
      by_cases hc : (R + 2 ^ i) * (R + 2 ^ i) ≤ x
      · have hz0 := cmpN_le hc
        obtain ⟨cc, hcc⟩ : ∃ c : Int, cmpN ((R + 2 ^ i) * (R + 2 ^ i)) x = c := ⟨_, rfl⟩
        rw [hcc] at OZ hz0
        clear hcc
        refine OZ.out.mono ?_
        rintro _ w6 ⟨rfl, rfl⟩
        have H3 := Lib.hid hc
        have H4 := Lib.hid (show x < (R + 2 ^ i + 2 ^ i) * (R + 2 ^ i + 2 ^ i) by
          have h := H2.out
          rw [Nat.pow_succ, show R + 2 ^ i * 2 = R + 2 ^ i + 2 ^ i by omega] at h
          exact h)
        clear hc
        go_wp2_with fail
        go_round
        case rel => exact ⟨i, R + 2 ^ i, y, rfl, rfl, by omega, HY5.out, H3.out, H4.out, K5.out⟩
        case measure => simp [intOf] <;> omega
      · have hz0 := cmpN_gt (show x < (R + 2 ^ i) * (R + 2 ^ i) by omega)
        obtain ⟨cc, hcc⟩ : ∃ c : Int, cmpN ((R + 2 ^ i) * (R + 2 ^ i)) x = c := ⟨_, rfl⟩
        rw [hcc] at OZ hz0
        clear hcc
        refine OZ.out.mono ?_
        rintro _ w6 ⟨rfl, rfl⟩
        have H4 := Lib.hid (show x < (R + 2 ^ i) * (R + 2 ^ i) by omega)
        clear hc
        go_wp2_with fail
        go_round
        case rel => exact ⟨i, R, r, rfl, rfl, by omega, HR5.out, H1.out, H4.out, K5.out⟩
        case measure => simp [intOf] <;> omega
    · obtain rfl : m = 0 := by omega
      go_wp2_with fail
      exact bodyPost_ret (v := .tuple #[r, .int .i64 0]) (by simp [results, Tryz.results46, go_sem]) rfl ⟨r, R, rfl, HR.out, H1.out, by simpa using H2.out, KP.out⟩
set_option maxHeartbeats 1000000 in
set_option maxRecDepth 100000 in
theorem pow_two (v : Value) (x k : Nat) (w : World) (hv : IsNat w v x k) (hk : k ≤ 150) :
    Calls Tryz.prog 48 #[v, .int .i64 2] w fun e w' => ∃ z, e = .returned (.tuple #[z, .int .i64 0]) ∧ IsNat w' z (x * x) (2 * k + 4) ∧ Kp No w w' := by
  have hv1 : IsNat w v x 300 := hv.le (by omega)
  have BD := Lib.hid (fun (g : Nat) (w0 : World) (hc : w0.cell? ⟨g, 0, none⟩ = some v) (hk : Kp No w w0) => bad_is g 1 1 [(v, x)] w0 rfl (by omega) (fun i y hy => by
    match i, hy with
    | 0, hy => simp at hy; subst hy; exact ⟨hc, hv1.no hk⟩
    | i + 1, hy => simp at hy))
  have PW := Lib.hid (fun (w0 : World) (hk0 : Kp No w w0) => power_two v x k w0 (hv.no hk0) hk)
  obtain ⟨A, n, c, l, rfl, _⟩ := hv.pos
  have KA := Lib.hid (Kp.alloc No w (.cells #[.slice A n c] 74))
  have HA0 := Lib.hid (show (w.alloc (.cells #[.slice A n c] 74)).cell? ⟨w.heap.size, 0, none⟩ = some (.slice A n c) by rw [cell_of_row _ _ _ _ _ _ (heap_alloc_new w _)]; rfl)
  clear hv hv1
  go_enter Tryz.func48, Tryz.ntmps48
  go_wp2_with fail
  refine (BD.out _ _ HA0.out KA.out).mono ?_
  rintro _ w1 ⟨rfl, rfl⟩
  clear BD HA0
  go_wp2_with fail
  refine (PW.out _ KA.out).mono ?_
  rintro _ w2 ⟨z, rfl, hz, k2⟩
  have HZ := Lib.hid hz.1
  have K2 := Lib.hid (KA.out.tr k2)
  clear hz k2
  go_wp2_with fail
  exact bodyPost_ret (v := .tuple #[z, .int .i64 0]) (by simp [results, Tryz.results48, go_sem]) rfl ⟨z, rfl, HZ.out, K2.out⟩
end Go.Proofs.YtamjhpdgclbfgaaGreat

namespace Go.Proofs.YtamjhpdgclbfgaaGreat
open Go.RowKit Go.Kq

theorem small_u64 (v : Value) (x k : Nat) (w : World) (h : IsNat w v x k) (hk : k ≤ 300) (hx : x < 18446744073709551616) :
    Calls Tryz.prog 49 #[v] w fun e w' => e = .returned (.tuple #[.int .u64 (x : Nat), .int .i64 0]) ∧ Kp No w w' := by
  have := small_is v x k w h hk
  unfold smallV at this
  rwa [if_pos hx] at this
theorem of_int (N : Nat) (w : World) (hN : N < 18446744073709551616) : Calls Tryz.prog 47 #[.int .u64 (N : Int)] w fun e w' => ∃ v, e = .returned v ∧ IsNew w.heap.size w' v N 2 ∧ Kp No w w' := of_any N w hN
set_option maxHeartbeats 2000000 in
set_option maxRecDepth 100000 in
theorem root03_is (a : Int × Int) (w : World) (hc : ckE [a] = 0) (h0 : 0 ≤ a.1) :
    Calls Tryz.prog 23 #[ivV a.1 a.2, .int .i64 2] w fun e w' => (∃ r s : Nat, r * r ≤ a.1.toNat ∧ a.1.toNat < (r + 1) * (r + 1) ∧ s * s ≤ a.2.toNat ∧ a.2.toNat < (s + 1) * (s + 1) ∧ e = .returned (ieV ((r : Int), ((if s * s < a.2.toNat then s + 1 else s : Nat) : Int), 0))) ∧ Kp No w w' := by
  have CK := Lib.hid (fun w0 => check03_is a w0)
  have hfa := ck_fits hc a (by simp)
  have hle := ck_le hc a (by simp)
  rw [hc] at CK
  simp only [fits_in62] at hfa
  unfold in62 at hfa
  obtain ⟨al, ah⟩ := a
  simp only [decide_eq_true_eq] at hfa hle h0
  obtain ⟨L, rfl⟩ : ∃ L : Nat, al = (L : Int) := ⟨al.toNat, by omega⟩
  obtain ⟨H, rfl⟩ : ∃ H : Nat, ah = (H : Int) := ⟨ah.toNat, by omega⟩
  have hL : L ≤ 4611686018427387904 := by omega
  have hH : H ≤ 4611686018427387904 := by omega
  simp only [Int.toNat_natCast]
  have g1 : IntKind.u64.wrap (L : Int) = (L : Int) := by rw [IntKind.wrap_u64]; omega
  have g2 : IntKind.u64.wrap (H : Int) = (H : Int) := by rw [IntKind.wrap_u64]; omega
  have OL := Lib.hid (fun w0 => of_int L w0 (by omega))
  have OH := Lib.hid (fun w0 => of_int H w0 (by omega))
  have RL := Lib.hid (fun (v : Value) w0 (hv : IsNat w0 v L 2) => root_two v L 2 w0 hv (by omega))
  have RH := Lib.hid (fun (v : Value) w0 (hv : IsNat w0 v H 2) => root_two v H 2 w0 hv (by omega))
  simp only [ieV, ivV] at *
  clear hc hle hfa h0
  obtain ⟨h1, h2, KA⟩ := two_newQ w (.cells #[.int .i64 L, .int .i64 H] 38) (.cells #[.int .i64 0, .int .i64 0] 38)
  replace h1 := Lib.hid h1
  replace h2 := Lib.hid h2
  replace KA := Lib.hid KA
  go_enter Tryz.func23, Tryz.ntmps23
  go_wp2_with fail
  refine (CK.out _).mono ?_
  rintro _ wb ⟨rfl, kb⟩
  have KB := Lib.hid (KA.out.tr kb)
  replace h1 := kb.heap h1.out id
  replace h2 := Lib.hid (kb.heap h2.out id)
  obtain ⟨c0, c1, _⟩ := two_cells h1
  clear kb CK KA
  replace h1 := Lib.hid h1
  have p0 : (0 : Int) ≤ (L : Int) := by omega
  go_wp2_with fail
  refine (OL.out _).mono ?_
  rintro _ wc ⟨u, rfl, hu, kc⟩
  have R1 := Lib.hid (RL.out u wc hu.1)
  have KC := Lib.hid (KB.out.tr kc)
  replace h1 := Lib.hid (kc.heap h1.out id)
  replace h2 := Lib.hid (kc.heap h2.out id)
  clear c0 c1 hu kc KB OL RL
  go_wp2_with fail
  refine R1.out.mono ?_
  rintro _ wd ⟨x, r, rfl, hx, hr1, hr2, kd⟩
  have HX := Lib.hid hx
  have HR := Lib.hid (And.intro hr1 hr2)
  have KD := Lib.hid (KC.out.tr kd)
  replace h1 := kd.heap h1.out id
  replace h2 := Lib.hid (kd.heap h2.out id)
  obtain ⟨c0, c1, _⟩ := two_cells h1
  clear hx kd KC R1 hr1 hr2
  replace h1 := Lib.hid h1
  go_wp2_with fail
  refine (OH.out _).mono ?_
  rintro _ we ⟨u, rfl, hu, ke⟩
  have R1 := Lib.hid (RH.out u we hu.1)
  have KE := Lib.hid (KD.out.tr ke)
  replace HX := Lib.hid (HX.out.no ke)
  replace h1 := Lib.hid (ke.heap h1.out id)
  replace h2 := Lib.hid (ke.heap h2.out id)
  clear c0 c1 hu ke KD RH
  go_wp2_with fail
  refine R1.out.mono ?_
  rintro _ wf ⟨y, s, rfl, hy, hs1, hs2, kf⟩
  have HY := Lib.hid hy
  have HS := Lib.hid (And.intro hs1 hs2)
  have KF := Lib.hid (KE.out.tr kf)
  replace HX := Lib.hid (HX.out.no kf)
  replace h1 := Lib.hid (kf.heap h1.out id)
  replace h2 := Lib.hid (kf.heap h2.out id)
  have PW := Lib.hid (pow_two y s 3 wf hy (by omega))
  clear hy kf KE R1 hs1 hs2
  go_wp2_with fail
  refine PW.out.mono ?_
  rintro _ wg ⟨p, rfl, hp, kg⟩
  have HP := Lib.hid hp
  have KG := Lib.hid (KF.out.tr kg)
  replace HY := Lib.hid (HY.out.no kg)
  replace h1 := Lib.hid (kg.heap h1.out id)
  replace h2 := Lib.hid (kg.heap h2.out id)
  have hr9 : r < 4294967296 := lt_of_sq HR.out.1 (by omega)
  have hs9 : s < 4294967296 := lt_of_sq HS.out.1 (by omega)
  have S1 := Lib.hid (small_u64 x r 3 wg (HX.out.no kg) (by omega) (by omega))
  clear hp kg KF PW HX
  go_wp2_with fail
  refine S1.out.mono ?_
  rintro _ wh ⟨rfl, kh⟩
  have KH := Lib.hid (KG.out.tr kh)
  replace HP := Lib.hid (HP.out.no kh)
  replace h1 := Lib.hid (kh.heap h1.out id)
  replace h2 := Lib.hid (kh.heap h2.out id)
  have S2 := Lib.hid (small_u64 y s 3 wh (HY.out.no kh) (by omega) (by omega))
  clear kh KG S1 HY
  go_wp2_with fail
  refine S2.out.mono ?_
  rintro _ wi ⟨rfl, ki⟩
  have KI := Lib.hid (KH.out.tr ki)
  replace HP := Lib.hid (HP.out.no ki)
  replace h1 := ki.heap h1.out id
  replace h2 := Lib.hid (ki.heap h2.out id)
  obtain ⟨c0, c1, _⟩ := two_cells h1
  clear ki KH S2
  replace h1 := Lib.hid h1
  go_wp2_with fail
  refine (OH.out _).mono ?_
  rintro _ wj ⟨u, rfl, hu, kj⟩
  have OR := Lib.hid (order_is p u (s * s) H 10 2 wj (HP.out.no kj) hu.1 (by omega) (by omega))
  have KJ := Lib.hid (KI.out.tr kj)
  have h2' := kj.heap h2.out id
  clear h2
  replace h2' := Lib.hid h2'
  clear hu kj KI OH c0 c1 h1 HP
  go_wp2_with fail
  refine OR.out.mono ?_
  rintro _ wk ⟨rfl, rfl⟩
  clear OR
  obtain ⟨d0, d1, z0, z1⟩ := two_cells h2'.out
  have f1 : IntKind.i64.wrap (r : Int) = (r : Int) := by rw [IntKind.wrap_i64]; omega
  have f2 : IntKind.i64.wrap (s : Int) = (s : Int) := by rw [IntKind.wrap_i64]; omega
  have f3 : IntKind.u64.wrap ((s : Int) + 1) = (s : Int) + 1 := by rw [IntKind.wrap_u64]; omega
  have f4 : IntKind.i64.wrap ((s : Int) + 1) = (s : Int) + 1 := by rw [IntKind.wrap_i64]; omega
  have hlw : w.heap.size ≤ w.heap.size + 1 := by omega
  by_cases hlt : s * s < H
  · have hz0 : cmpN (s * s) H = -1 := by unfold cmpN; rw [if_pos hlt]
    rw [hz0]
    have HLT := Lib.hid hlt
    clear hz0 hlt
    go_wp2_with fail
    have hs := setI_at h2'.out (.int .i64 (r : Int)) (.int .i64 ((s : Int) + 1))
    obtain ⟨v0, v1, _, _⟩ := two_cells hs
    exact bodyPost_ret (v := .tuple #[.agg #[.int .i64 (r : Int), .int .i64 ((s : Int) + 1)], .int .i64 0]) (by simp [results, Tryz.results23, go_sem, v0, v1]) rfl ⟨⟨r, s, HR.out.1, HR.out.2, HS.out.1, HS.out.2, by rw [if_pos HLT.out]; rfl⟩, kp_set2 KJ.out (by omega)⟩
  · have hz0 : 0 ≤ cmpN (s * s) H := cmpN_ge (by omega)
    generalize cmpN (s * s) H = cc at hz0 ⊢
    have HLT := Lib.hid hlt
    clear hlt
    go_wp2_with fail
    have hs := setI_at h2'.out (.int .i64 (r : Int)) (.int .i64 (s : Int))
    obtain ⟨v0, v1, _, _⟩ := two_cells hs
    exact bodyPost_ret (v := .tuple #[.agg #[.int .i64 (r : Int), .int .i64 (s : Int)], .int .i64 0]) (by simp [results, Tryz.results23, go_sem, v0, v1]) rfl ⟨⟨r, s, HR.out.1, HR.out.2, HS.out.1, HS.out.2, by rw [if_neg HLT.out]⟩, kp_set2 KJ.out (by omega)⟩
end Go.Proofs.YtamjhpdgclbfgaaGreat

namespace Go.Proofs.YtamjhpdgclbfgaaGreat
open Go.RowKit Go.Kq

theorem ck_twoQ {a b : Int × Int} (h : ckE [a, b] = 0) : (in62 a.1 = true ∧ in62 a.2 = true) ∧ (in62 b.1 = true ∧ in62 b.2 = true) := by
  have h1 := ck_fits h a (by simp)
  have h2 := ck_fits h b (by simp)
  simp only [fits_in62] at h1 h2
  exact ⟨h1, h2⟩
theorem bad03_two (a b : Int × Int) (g : Nat) (t : TypeId) (w : World) (hh : w.heap[g]? = some (.cells #[.int .i64 a.1, .int .i64 a.2, .int .i64 b.1, .int .i64 b.2] t (0, 0))) :
    Calls Tryz.prog 68 #[.slice (some ⟨g, 0, none⟩) 2 2] w fun e w' => e = .returned (.int .i64 (ckE [a, b])) ∧ Kp No w w' := by
  refine bad03_any [a, b] g 2 2 w rfl (by omega) fun k x hx => ?_
  match k, hx with
  | 0, hx => simp at hx; subst hx; exact ⟨by rw [cell_of_row _ _ _ _ _ _ hh]; rfl, by rw [cell_of_row _ _ _ _ _ _ hh]; rfl⟩
  | 1, hx => simp at hx; subst hx; exact ⟨by rw [cell_of_row _ _ _ _ _ _ hh]; rfl, by rw [cell_of_row _ _ _ _ _ _ hh]; rfl⟩
  | k + 2, hx => simp at hx
end Go.Proofs.YtamjhpdgclbfgaaGreat
