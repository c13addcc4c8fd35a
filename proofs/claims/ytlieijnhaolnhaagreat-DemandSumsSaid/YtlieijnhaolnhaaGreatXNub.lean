/- Great numbers by limbs: Root with exponent 2, Pow with exponent 2: walks. -/
import Derived.Test.YtlieijnhaolnhaaGreatXNua
namespace Go.Proofs.YtlieijnhaolnhaaGreat
open Go.RowKit Go.Kq

theorem sq_lt_of {r P x : Nat} (h : x < (r + 2 * P) * (r + 2 * P)) (h2 : ¬ x < (r + P) * (r + P)) : x < (r + P + P) * (r + P + P) := by
  rw [show r + P + P = r + 2 * P by omega]
  exact h
theorem lt_of_sq {r B x : Nat} (h : r * r ≤ x) (hx : x < B * B) : r < B :=
  Nat.lt_of_not_le fun hle => by
    have := Nat.mul_le_mul hle hle
    omega
set_option maxHeartbeats 1000000 in
set_option maxRecDepth 100000 in
theorem root_two (v : Value) (x k : Nat) (w : World) (hv : IsNat w v x k) (hx : x < 18446744073709551616) :
    Calls Tryz.prog 73 #[v, .int .i64 2] w fun e w' => ∃ z r, e = .returned (.tuple #[z, .int .i64 0]) ∧ IsNat w' z r 3 ∧ r * r ≤ x ∧ x < (r + 1) * (r + 1) ∧ Kp No w w' := by
  have hv2 : IsNat w v x 2 := hv.tight (by unfold BB; omega)
  have hv1 : IsNat w v x 300 := hv2.le (by omega)
  have BD := Lib.hid (fun (g : Nat) (w0 : World) (hc : w0.cell? ⟨g, 0, none⟩ = some v) (hk : Kp No w w0) => bad_is g 1 1 [(v, x)] w0 rfl (by omega) (fun i y hy => by
    match i, hy with
    | 0, hy => simp at hy; subst hy; exact ⟨hc, hv1.no hk⟩
    | i + 1, hy => simp at hy))
  have HV := Lib.hid hv2
  have OR := Lib.hid (fun (z : Value) (y : Nat) (w0 : World) (hz : IsNat w0 z y 10) (hk : Kp No w w0) => order_is z v y x 10 2 w0 hz (hv2.no hk) (by omega) (by omega))
  obtain ⟨A, n, c, l, rfl, ha, hl, hn, _⟩ := hv2.pos
  have SZ := Lib.hid (fun w0 (h : Kp No w w0) => size_num A n c l w0 (ha.no h) (by omega))
  rw [hl] at SZ
  have KA := Lib.hid (Kp.alloc No w (.cells #[.slice A n c] 92))
  have HA0 := Lib.hid (show (w.alloc (.cells #[.slice A n c] 92)).cell? ⟨w.heap.size, 0, none⟩ = some (.slice A n c) by rw [cell_of_row _ _ _ _ _ _ (heap_alloc_new w _)]; rfl)
  clear hv hv1 hv2 ha hl
  go_enter Tryz.func73, Tryz.ntmps73
  go_wp2_with fail
  refine (BD.out _ _ HA0.out KA.out).mono ?_
  rintro _ w1 ⟨rfl, rfl⟩
  clear BD HA0
  go_wp2_with fail
  refine (SZ.out _ KA.out).mono ?_
  rintro _ w1 ⟨s, rfl, hs0, hs1, k1⟩
  have K1 := Lib.hid (KA.out.tr k1)
  have t1 : (s : Int).tdiv 2 = ((s / 2 : Nat) : Int) := by rw [Int.tdiv_eq_ediv_of_nonneg (by omega)]; omega
  have t2 : (s : Int) / 2 = ((s / 2 : Nat) : Int) := by omega
  have t3 : IntKind.i64.wrap ((s / 2 : Nat) : Int) = ((s / 2 : Nat) : Int) := by rw [IntKind.wrap_i64]; omega
  have hm : s / 2 ≤ 32 := by omega
  have HS := Lib.hid (show x < (0 + 2 ^ (s / 2 + 1)) * (0 + 2 ^ (s / 2 + 1)) by
    rw [Nat.zero_add, ← Nat.pow_add]
    exact Nat.lt_of_lt_of_le hs0 (Nat.pow_le_pow_right (by omega) (by omega)))
  clear hs0 hs1 k1 KA
  obtain ⟨M, hM⟩ : ∃ M, M = s / 2 := ⟨_, rfl⟩
  rw [← hM] at t1 t2 t3 hm HS
  clear hM
  go_wp2_with fail
  go_loopw [7, 8] (fun r i wr => ∃ (m R : Nat) (rv : Value), rv = r ∧ i = .int .i64 ((m : Int) - 1) ∧ m ≤ 33 ∧ IsNat wr r R 3 ∧ R * R ≤ x ∧ x < (R + 2 ^ m) * (R + 2 ^ m) ∧ Kp No w wr) (fun _ i _ => (intOf i + 1).toNat)
  case atStart => exact ⟨M + 1, 0, _, rfl, by congr 1; omega, by omega, (IsNat.nil _).le (by omega), by omega, HS.out, K1.out⟩
  case round =>
    obtain ⟨m, R, r, rfl, rfl, hm, hr, hR, hR2, hkp⟩ := hrel
    have HR := Lib.hid hr
    have H1 := Lib.hid hR
    have H2 := Lib.hid hR2
    have KP := Lib.hid hkp
    clear hr hR hR2 hkp
    by_cases hpos : 0 < m
    · obtain ⟨i, rfl⟩ : ∃ i, m = i + 1 := ⟨m - 1, by omega⟩
      rw [show (((i + 1 : Nat) : Int) - 1) = (i : Int) by omega]
      have hi0 : (0 : Int) ≤ (i : Int) := by omega
      have hi1 : IntKind.i64.wrap ((i : Int) - 1) = (i : Int) - 1 := by rw [IntKind.wrap_i64]; omega
      have O1 := Lib.hid (of_any 1 wr (by omega))
      go_wp2_with fail
      refine O1.out.mono ?_
      rintro _ w2 ⟨o1, rfl, ho1, k2⟩
      have K2 := Lib.hid (KP.out.tr k2)
      have HR2 := Lib.hid (HR.out.no k2)
      have S1 := Lib.hid (shift_one o1 i 2 w2 ho1.1 (by omega))
      clear ho1 k2 O1
      go_wp2_with fail
      refine S1.out.mono ?_
      rintro _ w3 ⟨o2, rfl, ho2, k3⟩
      have K3 := Lib.hid (K2.out.tr k3)
      have P1 := Lib.hid (plus_new r o2 R (2 ^ i) 3 3 7 w3 (HR2.out.no k3) ho2.1 (by omega) (by omega) (by omega))
      have HR3 := Lib.hid (HR2.out.no k3)
      clear ho2 k3 S1
      go_wp2_with fail
      refine P1.out.mono ?_
      rintro _ w4 ⟨y, rfl, hy, k4⟩
      have K4 := Lib.hid (K3.out.tr k4)
      have HR4 := Lib.hid (HR3.out.no k4)
      have hb : R + 2 ^ i < BB ^ 3 := by
        have h1 : R < 4294967296 := lt_of_sq H1.out (by omega)
        have h2 : 2 ^ i ≤ 2 ^ 32 := Nat.pow_le_pow_right (by omega) (by omega)
        have h3 : BB ^ 3 = 79228162514264337593543950336 := by unfold BB; rfl
        omega
      have HY := Lib.hid (hy.1.tight hb)
      have W1 := Lib.hid (power_two y (R + 2 ^ i) 3 w4 HY.out (by omega))
      clear hy k4 P1 hb
      go_wp2_with fail
      refine W1.out.mono ?_
      rintro _ w5 ⟨z, rfl, hz, k5⟩
      have K5 := Lib.hid (K4.out.tr k5)
      have HR5 := Lib.hid (HR4.out.no k5)
      have HY5 := Lib.hid (HY.out.no k5)
      have OZ := Lib.hid (OR.out z _ w5 hz.1 K5.out)
      clear hz k5 W1
      go_wp2_with fail
      by_cases hc : (R + 2 ^ i) * (R + 2 ^ i) ≤ x
      · have hz0 := cmpN_le hc
        obtain ⟨cc, hcc⟩ : ∃ c : Int, cmpN ((R + 2 ^ i) * (R + 2 ^ i)) x = c := ⟨_, rfl⟩
        rw [hcc] at OZ hz0
        clear hcc
        refine OZ.out.mono ?_
        rintro _ w6 ⟨rfl, rfl⟩
        have H3 := Lib.hid hc
        have H4 := Lib.hid (show x < (R + 2 ^ i + 2 ^ i) * (R + 2 ^ i + 2 ^ i) by
          have h := H2.out
          rw [Nat.pow_succ, show R + 2 ^ i * 2 = R + 2 ^ i + 2 ^ i by omega] at h
          exact h)
        clear hc
        go_wp2_with fail
        go_round
        case rel => exact ⟨i, R + 2 ^ i, y, rfl, rfl, by omega, HY5.out, H3.out, H4.out, K5.out⟩
        case measure => simp [intOf] <;> omega
      · have hz0 := cmpN_gt (show x < (R + 2 ^ i) * (R + 2 ^ i) by omega)
        obtain ⟨cc, hcc⟩ : ∃ c : Int, cmpN ((R + 2 ^ i) * (R + 2 ^ i)) x = c := ⟨_, rfl⟩
        rw [hcc] at OZ hz0
        clear hcc
        refine OZ.out.mono ?_
        rintro _ w6 ⟨rfl, rfl⟩
        have H4 := Lib.hid (show x < (R + 2 ^ i) * (R + 2 ^ i) by omega)
        clear hc
        go_wp2_with fail
        go_round
        case rel => exact ⟨i, R, r, rfl, rfl, by omega, HR5.out, H1.out, H4.out, K5.out⟩
        case measure => simp [intOf] <;> omega
    · obtain rfl : m = 0 := by omega
      go_wp2_with fail
      exact bodyPost_ret (v := .tuple #[r, .int .i64 0]) (by simp [results, Tryz.results73, go_sem]) rfl ⟨r, R, rfl, HR.out, H1.out, by simpa using H2.out, KP.out⟩
set_option maxHeartbeats 1000000 in
set_option maxRecDepth 100000 in
theorem pow_two (v : Value) (x k : Nat) (w : World) (hv : IsNat w v x k) (hk : k ≤ 150) :
    Calls Tryz.prog 75 #[v, .int .i64 2] w fun e w' => ∃ z, e = .returned (.tuple #[z, .int .i64 0]) ∧ IsNat w' z (x * x) (2 * k + 4) ∧ Kp No w w' := by
  have hv1 : IsNat w v x 300 := hv.le (by omega)
  have BD := Lib.hid (fun (g : Nat) (w0 : World) (hc : w0.cell? ⟨g, 0, none⟩ = some v) (hk : Kp No w w0) => bad_is g 1 1 [(v, x)] w0 rfl (by omega) (fun i y hy => by
    match i, hy with
    | 0, hy => simp at hy; subst hy; exact ⟨hc, hv1.no hk⟩
    | i + 1, hy => simp at hy))
  have PW := Lib.hid (fun (w0 : World) (hk0 : Kp No w w0) => power_two v x k w0 (hv.no hk0) hk)
  obtain ⟨A, n, c, l, rfl, _⟩ := hv.pos
  have KA := Lib.hid (Kp.alloc No w (.cells #[.slice A n c] 92))
  have HA0 := Lib.hid (show (w.alloc (.cells #[.slice A n c] 92)).cell? ⟨w.heap.size, 0, none⟩ = some (.slice A n c) by rw [cell_of_row _ _ _ _ _ _ (heap_alloc_new w _)]; rfl)
  clear hv hv1
  go_enter Tryz.func75, Tryz.ntmps75
  go_wp2_with fail
  refine (BD.out _ _ HA0.out KA.out).mono ?_
  rintro _ w1 ⟨rfl, rfl⟩
  clear BD HA0
  go_wp2_with fail
  refine (PW.out _ KA.out).mono ?_
  rintro _ w2 ⟨z, rfl, hz, k2⟩
  have HZ := Lib.hid hz.1
  have K2 := Lib.hid (KA.out.tr k2)
  clear hz k2
  go_wp2_with fail
  exact bodyPost_ret (v := .tuple #[z, .int .i64 0]) (by simp [results, Tryz.results75, go_sem]) rfl ⟨z, rfl, HZ.out, K2.out⟩
end Go.Proofs.YtlieijnhaolnhaaGreat
