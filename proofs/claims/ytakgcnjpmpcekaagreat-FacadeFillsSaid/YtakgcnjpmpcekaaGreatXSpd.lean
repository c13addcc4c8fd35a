/- spans: math/bits.Div64. -/
import Derived.Shelf.Small.Bits
import Derived.Deep.QuietTactic
import Derived.BigQuiet
import Derived.Laws.ShiftsVar
import Derived.Test.YtakgcnjpmpcekaaGreatXLibBitM
namespace Go.Proofs.YtakgcnjpmpcekaaGreat
open Go.RowKit Go.Kq

set_option maxHeartbeats 1000000 in
set_option maxRecDepth 100000 in
theorem div_low (lo y : Nat) (w : World) (hy : 0 < y) (hl : lo < 18446744073709551616) (hy2 : y < 18446744073709551616) :
    Calls Tryz.prog 79 #[.int .u64 0, .int .u64 (lo : Nat), .int .u64 (y : Nat)] w fun e w' => e = .returned (.tuple #[.int .u64 ((lo / y : Nat) : Int), .int .u64 ((lo % y : Nat) : Int)]) ∧ Kp No w w' := by
  have e1 : (lo : Int) / (y : Int) = ((lo / y : Nat) : Int) := (Int.natCast_ediv lo y).symm
  have e2 : (lo : Int) % (y : Int) = ((lo % y : Nat) : Int) := (Int.natCast_emod lo y).symm
  have e3 : (lo : Int).tdiv (y : Int) = ((lo / y : Nat) : Int) := rfl
  have e4 : (lo : Int).tmod (y : Int) = ((lo % y : Nat) : Int) := rfl
  have hq : lo / y < 18446744073709551616 := Nat.lt_of_le_of_lt (Nat.div_le_self _ _) hl
  have hr : lo % y < 18446744073709551616 := Nat.lt_of_le_of_lt (Nat.mod_le _ _) hl
  generalize lo / y = q at *
  generalize lo % y = r at *
  have e5 : IntKind.u64.wrap (q : Int) = (q : Int) := by rw [IntKind.wrap_u64]; omega
  have e6 : IntKind.u64.wrap (r : Int) = (r : Int) := by rw [IntKind.wrap_u64]; omega
  have hz : ((y : Int) == 0) = false := by rw [beq_eq_false_iff_ne]; omega
  have hz2 : ¬ (y : Int) ≤ 0 := by omega
  have hz3 : ¬ (y : Int) = 0 := by omega
  have hz4 : ¬ y = 0 := by omega
  go_enter Tryz.func79, Tryz.ntmps79
  go_wp2_with fail
  go_quiet (fail)
  go_wp2_with fail
  refine bodyPost_ret (v := .tuple #[.int .u64 (q : Int), .int .u64 (r : Int)]) ?_ rfl ⟨rfl, Kp.drewN _ _ _⟩
  simp [results, Tryz.results79, go_sem]
set_option maxHeartbeats 4000000 in
set_option maxRecDepth 100000 in
theorem div_high (hi lo y : Nat) (w : World) (h0 : 0 < hi) (hy : hi < y) (hl : lo < 18446744073709551616) (hy2 : y < 18446744073709551616) :
    Calls Tryz.prog 79 #[.int .u64 (hi : Nat), .int .u64 (lo : Nat), .int .u64 (y : Nat)] w fun e w' => e = .returned (.tuple #[.int .u64 (((hi * 18446744073709551616 + lo) / y : Nat) : Int), .int .u64 (((hi * 18446744073709551616 + lo) % y : Nat) : Int)]) ∧ Kp No w w' := by
  have hz : ((y : Int) == 0) = false := by rw [beq_eq_false_iff_ne]; omega
  have hz2 : ¬ (y : Int) ≤ (hi : Int) := by omega
  have hz3 : ((hi : Int) == 0) = false := by rw [beq_eq_false_iff_ne]; omega
  obtain ⟨b1, b2, b3⟩ := bitLen_bounds y (by omega) hy2
  have hle : Lib.bitLen y ≤ 64 := Lib.bitLen_le y 64 (by omega) (by omega)
  have hlz := fun w0 => Any.bits_LeadingZeros64 lead64 (y : Int) w0 (by omega) (by omega)
  change ∀ w0, Calls Tryz.prog 92 _ _ _ at hlz
  rw [Int.toNat_natCast] at hlz
  obtain ⟨s, hs⟩ : ∃ s, 64 - Lib.bitLen y = s := ⟨_, rfl⟩
  have hsl : s < 64 := by omega
  have hsI : (64 : Int) - ((Lib.bitLen y : Nat) : Int) = (s : Nat) := by omega
  rw [hsI] at hlz
  have HLZ := Lib.hid hlz
  clear hlz hsI
  obtain ⟨QQ, hQQ⟩ : ∃ QQ, (hi * 18446744073709551616 + lo) / y = QQ := ⟨_, rfl⟩
  obtain ⟨RR, hRR⟩ : ∃ RR, (hi * 18446744073709551616 + lo) % y = RR := ⟨_, rfl⟩
  rw [hQQ, hRR]
  have HQQ := Lib.hid hQQ
  have HRR := Lib.hid hRR
  clear hQQ hRR
  go_enter Tryz.func79, Tryz.ntmps79
  generalize hB : (4294967296 : Int) = B
  have HB := Lib.hid hB
  clear hB
  go_wp2_with fail
  refine (HLZ.out _).mono ?_
  rintro e w1 ⟨rfl, rfl⟩
  clear HLZ
  -- the words, shifted
  have hpow : 2 ^ (Lib.bitLen y - 1) * 2 ^ s = 9223372036854775808 := by
    rw [← Nat.pow_add, show Lib.bitLen y - 1 + s = 63 by omega]
  have hpow2 : 2 ^ Lib.bitLen y * 2 ^ s = 18446744073709551616 := by
    rw [← Nat.pow_add, show Lib.bitLen y + s = 64 by omega]
  have hpow3 : 2 ^ (64 - s) * 2 ^ s = 18446744073709551616 := by
    rw [← Nat.pow_add, show 64 - s + s = 64 by omega]
  have hps : 0 < 2 ^ s := Nat.two_pow_pos s
  obtain ⟨Y, hY⟩ : ∃ Y, y * 2 ^ s = Y := ⟨_, rfl⟩
  have hY1 : 9223372036854775808 ≤ Y := by rw [← hY, ← hpow]; exact Nat.mul_le_mul_right _ b2
  have hY2 : Y < 18446744073709551616 := by rw [← hY, ← hpow2]; exact Nat.mul_lt_mul_of_pos_right b3 hps
  have hHY : hi * 2 ^ s < Y := by rw [← hY]; exact Nat.mul_lt_mul_of_pos_right hy hps
  have hL : lo / 2 ^ (64 - s) < 2 ^ s := by
    rw [Nat.div_lt_iff_lt_mul (Nat.two_pow_pos _), Nat.mul_comm, hpow3]
    exact hl
  have hsw := shift_words (hi := hi) (lo := lo) (s := s) (by omega)
  rw [show (2 : Nat) ^ 64 = 18446744073709551616 from rfl] at hsw
  obtain ⟨U, hU⟩ : ∃ U, hi * 2 ^ s + lo / 2 ^ (64 - s) = U := ⟨_, rfl⟩
  obtain ⟨V, hV⟩ : ∃ V, lo * 2 ^ s % 18446744073709551616 = V := ⟨_, rfl⟩
  have hV2 : V < 18446744073709551616 := by rw [← hV]; exact Nat.mod_lt _ (by omega)
  rw [hU, hV] at hsw
  have hN : (hi * 18446744073709551616 + lo) * 2 ^ s < Y * 18446744073709551616 := by
    rw [← hY, Nat.mul_assoc, Nat.mul_comm (2 ^ s), ← Nat.mul_assoc]
    refine Nat.mul_lt_mul_of_pos_right ?_ hps
    have : (hi + 1) * 18446744073709551616 ≤ y * 18446744073709551616 := Nat.mul_le_mul_right _ hy
    omega
  have hUY : U < Y := by omega
  have hor : (hi * 2 ^ s) ||| (lo / 2 ^ (64 - s)) = U := by rw [or_sum hL, hU]
  -- how the walk spells them
  have r1 : IntKind.u64.wrap ((y : Int) * 2 ^ s) = ((Y : Nat) : Int) := by
    rw [IntKind.wrap_u64, ← hY]
    have : (y : Int) * 2 ^ s = ((y * 2 ^ s : Nat) : Int) := by simp
    omega
  have r2 : ((Y : Nat) : Int) / 4294967296 = ((Y / 4294967296 : Nat) : Int) := by omega
  have r3 := Mul64.maskN Y hY2
  obtain ⟨H, hH⟩ : ∃ H, hi * 2 ^ s = H := ⟨_, rfl⟩
  obtain ⟨L, hLe⟩ : ∃ L, lo / 2 ^ (64 - s) = L := ⟨_, rfl⟩
  have r4 : IntKind.u64.wrap ((hi : Int) * 2 ^ s) = ((H : Nat) : Int) := by
    rw [IntKind.wrap_u64, ← hH]
    have : (hi : Int) * 2 ^ s = ((hi * 2 ^ s : Nat) : Int) := by simp
    omega
  have r5 : (lo : Int) / 2 ^ (64 - s) = ((L : Nat) : Int) := by rw [← hLe]; simp
  have hLM : L < 18446744073709551616 := by rw [← hLe]; exact Nat.lt_of_le_of_lt (Nat.div_le_self _ _) hl
  have r6 : bits .or .u64 ((H : Nat) : Int) ((L : Nat) : Int) = ((U : Nat) : Int) := by
    rw [bits_or_u64_nat _ _ (by omega) hLM, ← hH, ← hLe, hor]
  have r7 : IntKind.u64.wrap ((lo : Int) * 2 ^ s) = ((V : Nat) : Int) := by
    rw [IntKind.wrap_u64, ← hV]
    have : (lo : Int) * 2 ^ s = ((lo * 2 ^ s : Nat) : Int) := by simp
    omega
  have r8 : ((V : Nat) : Int) / 4294967296 = ((V / 4294967296 : Nat) : Int) := by omega
  have r9 := Mul64.maskN V hV2
  -- what the digits are
  obtain ⟨a, ha⟩ : ∃ a, Y / 4294967296 = a := ⟨_, rfl⟩
  obtain ⟨c, hc⟩ : ∃ c, Y % 4294967296 = c := ⟨_, rfl⟩
  obtain ⟨n1, hn1⟩ : ∃ n1, V / 4294967296 = n1 := ⟨_, rfl⟩
  obtain ⟨n0, hn0⟩ : ∃ n0, V % 4294967296 = n0 := ⟨_, rfl⟩
  have hYac : Y = a * 4294967296 + c := by omega
  have hc2 : c < 4294967296 := by omega
  have ha1 : 2147483648 ≤ a := by omega
  have ha2 : a < 4294967296 := by omega
  have hn1l : n1 < 4294967296 := by omega
  have hn0l : n0 < 4294967296 := by omega
  have htwo := two_digits (B := 4294967296) (N := U * 18446744073709551616 + V) (y := Y) (u := U) (n1 := n1) (n0 := n0) (by omega) (by omega)
  rw [← hsw, ← hY, shifted_div, shifted_mod, hY, HQQ.out, HRR.out] at htwo
  rw [ha] at r2
  rw [hc] at r3
  rw [hn1] at r8
  rw [hn0] at r9
  have f1 := digit_first hYac hUY hn1l (by omega) (by omega) hc2
  have hQs := digit_small hUY hn1l
  have hmod := Nat.mod_lt (U * 4294967296 + n1) (show 0 < Y by omega)
  have hdm := Nat.div_add_mod (U * 4294967296 + n1) Y
  have hUa := Nat.div_add_mod U a
  have hUm := Nat.mod_lt U (show 0 < a by omega)
  obtain ⟨Q1, hQ1⟩ : ∃ Q1, (U * 4294967296 + n1) / Y = Q1 := ⟨_, rfl⟩
  obtain ⟨R1, hR1⟩ : ∃ R1, (U * 4294967296 + n1) % Y = R1 := ⟨_, rfl⟩
  obtain ⟨q0, hq0⟩ : ∃ q0, U / a = q0 := ⟨_, rfl⟩
  obtain ⟨r0, hr0⟩ : ∃ r0, U % a = r0 := ⟨_, rfl⟩
  obtain ⟨P0, hP0⟩ : ∃ P0, a * q0 = P0 := ⟨_, rfl⟩
  have t1 : (U : Int) / (a : Int) = ((q0 : Nat) : Int) := by rw [← hq0]; exact (Int.natCast_ediv U a).symm
  have t2 : (U : Int).tdiv (a : Int) = ((q0 : Nat) : Int) := by rw [← hq0]; rfl
  rw [hQ1, hq0] at f1
  rw [hQ1] at hQs hdm
  rw [hR1] at hmod hdm
  rw [hq0, hr0, hP0] at hUa
  rw [hr0] at hUm
  have t3 : IntKind.u64.wrap ((q0 : Int) * (a : Int)) = ((P0 : Nat) : Int) := by
    rw [IntKind.wrap_u64, ← Int.natCast_mul, Nat.mul_comm q0 a, hP0]
    omega
  have t4 : (U : Int) - ((P0 : Nat) : Int) = ((r0 : Nat) : Int) := by omega
  have t5 : ((a : Int) == 0) = false := by rw [beq_eq_false_iff_ne]; omega
  have t6 : ¬ (a : Int) = 0 := by omega
  rw [hQ1, hR1] at htwo
  have HT := Lib.hid htwo
  have HY := Lib.hid hYac
  have HDM := Lib.hid hdm
  have HQ1 := Lib.hid hQ1
  have hqa : q0 * a + r0 = U := by rw [Nat.mul_comm, hP0]; exact hUa
  have HQA := Lib.hid hqa
  clear htwo hsw hN hor hU hV hY hpow hpow2 hpow3 b1 b2 b3 hs hle hL hLM hYac ha hc hn1 hn0 hHY hdm hUa hQ1 hR1 hq0 hr0 hP0 hH hLe hqa
  have v1 : IntKind.u64.wrap (IntKind.u64.wrap (IntKind.u64.wrap ((U : Int) * B) + (n1 : Int)) - IntKind.u64.wrap ((Q1 : Int) * (Y : Int))) = ((R1 : Nat) : Int) := by
    have h := HDM.out
    have e : (Q1 : Int) * (Y : Int) = ((Y * Q1 : Nat) : Int) := by rw [Int.natCast_mul, Int.mul_comm]
    have hB := HB.out
    rw [IntKind.wrap_u64, IntKind.wrap_u64, IntKind.wrap_u64, IntKind.wrap_u64, e, ← hB]
    omega
  go_wp2_with fail
  go_loop [15, 16] (fun vq vr => ∃ q r : Nat, vq = .int .u64 (q : Nat) ∧ vr = .int .u64 (r : Nat) ∧ q * a + r = U ∧ Q1 ≤ q ∧ q ≤ 4294967297 ∧ r < 4294967296) (fun vq _ => (intOf vq).toNat)
  case atStart => exact ⟨q0, r0, rfl, rfl, HQA.out, f1.1, by omega, by omega⟩
  case round =>
    obtain ⟨q, r, rfl, rfl, hqr, hq1, hq2, hr⟩ := hrel
    clear HQA t1 t2 t3 t4 t5 t6 f1 r1 r2 r3 r4 r5 r6 r7 r8 r9 hUm
    obtain ⟨P, hP⟩ : ∃ P, q * c = P := ⟨_, rfl⟩
    have hPb : P ≤ 18446744073709551615 := by
      rw [← hP]
      exact Nat.le_trans (Nat.mul_le_mul hq2 (show c ≤ 4294967295 by omega)) (by omega)
    have u1 : IntKind.u64.wrap ((q : Int) * (c : Int)) = ((P : Nat) : Int) := by
      rw [IntKind.wrap_u64, ← Int.natCast_mul, hP]
      omega
    obtain ⟨W, hW⟩ : ∃ W, 4294967296 * r = W := ⟨_, rfl⟩
    have u2 : IntKind.u64.wrap (B * (r : Int)) = ((W : Nat) : Int) := by
      have hB := HB.out
      rw [IntKind.wrap_u64, ← hB]
      omega
    have u3 : IntKind.u64.wrap ((W : Int) + (n1 : Int)) = (((W + n1 : Nat)) : Int) := by
      rw [IntKind.wrap_u64]
      omega
    obtain ⟨S, hS⟩ : ∃ S, W + n1 = S := ⟨_, rfl⟩
    rw [hS] at u3
    have HQR := Lib.hid hqr
    have HP := Lib.hid hP
    clear hqr hP
    have hcase : ((4294967296 ≤ q ∨ (q < 4294967296 ∧ 4294967296 * r + n1 < P)) ∧ r + a < 4294967296 ∧ Q1 + 1 ≤ q) ∨ (q = Q1 ∧ q < 4294967296 ∧ P ≤ 4294967296 * r + n1) ∨ (4294967296 ≤ q ∧ 4294967296 ≤ r + a ∧ q = Q1 + 1) ∨ (q < 4294967296 ∧ 4294967296 * r + n1 < P ∧ 4294967296 ≤ r + a ∧ q = Q1 + 1) := by
      by_cases t : 4294967296 ≤ q ∨ 4294967296 * r + n1 < P
      · have hg := digit_great HY.out hUY hn1l HQR.out (by rw [HP.out]; exact t)
        rw [HQ1.out] at hg
        by_cases hb : 4294967296 ≤ r + a
        · have hb2 := digit_break (n := n1) (q := q - 1) (r := r + a) HY.out hUY (by
            have := HQR.out
            obtain ⟨q', rfl⟩ : ∃ q', q = q' + 1 := ⟨q - 1, by omega⟩
            rw [Nat.add_mul] at this
            rw [Nat.add_sub_cancel]
            omega) (by rw [HQ1.out]; omega) hb (by omega) hc2
          rw [HQ1.out] at hb2
          omega
        · omega
      · have hd := digit_done HY.out hUY HQR.out (by rw [HQ1.out]; exact hq1) (by rw [HP.out]; omega)
        rw [HQ1.out] at hd
        omega
    rcases hcase with ⟨ht, hra, hqq⟩ | hexit
    · obtain ⟨p, hp⟩ : ∃ p, q = p + 1 := ⟨q - 1, by omega⟩
      obtain ⟨w, hw⟩ : ∃ w, r + a = w := ⟨_, rfl⟩
      have hstep : p * a + w = U := by
        have := HQR.out
        rw [hp, Nat.add_mul] at this
        omega
      have HST := Lib.hid hstep
      have hqs : (q : Int) - 1 = ((p : Nat) : Int) := by omega
      have i1 : Q1 ≤ p := by omega
      have i2 : p ≤ 4294967297 := by omega
      have i3 : p < q := by omega
      have u4 : IntKind.u64.wrap ((r : Int) + (a : Int)) = (w : Int) := by
        rw [IntKind.wrap_u64]
        omega
      have u5 : IntKind.u64.wrap (p : Int) = (p : Int) := by
        rw [IntKind.wrap_u64]
        omega
      have hra2 : w < 4294967296 := by omega
      have I1 := Lib.hid (And.intro i1 (And.intro i2 (And.intro i3 hra2)))
      have hB := HB.out
      have j2 : (w : Int) < B := by omega
      have j3 : ¬ B ≤ (w : Int) := by omega
      have ht' : B ≤ (q : Int) ∨ ((q : Int) < B ∧ (S : Int) < (P : Int)) := by omega
      clear hB
      clear hstep v1 hp ht hw hra2 hPb hW hS hq2 hr hra hqq hq1 i1 i2 i3 hUY hY1 hY2 hV2 hc2 ha1 ha2 hn1l hn0l hQs hmod
      rcases ht' with ht | ⟨ht1, ht2⟩
      all_goals
        go_wp2_with fail
        go_round
        case rel => exact ⟨p, w, rfl, rfl, HST.out, I1.out.1, I1.out.2.1, I1.out.2.2.2⟩
        case measure => have := I1.out; simp [intOf]; omega
    · -- the second digit
      have g1 := digit_first HY.out hmod hn0l (by omega) (by omega) hc2
      have gs := digit_small hmod hn0l
      have gm := Nat.mod_lt (R1 * 4294967296 + n0) (show 0 < Y by omega)
      have gd := Nat.div_add_mod (R1 * 4294967296 + n0) Y
      have gUa := Nat.div_add_mod R1 a
      have gUm := Nat.mod_lt R1 (show 0 < a by omega)
      have HTo := HT.out
      obtain ⟨Q0, hQ0⟩ : ∃ Q0, (R1 * 4294967296 + n0) / Y = Q0 := ⟨_, rfl⟩
      obtain ⟨R0, hR0⟩ : ∃ R0, (R1 * 4294967296 + n0) % Y = R0 := ⟨_, rfl⟩
      obtain ⟨x0, hx0⟩ : ∃ x0, R1 / a = x0 := ⟨_, rfl⟩
      obtain ⟨y0, hy0⟩ : ∃ y0, R1 % a = y0 := ⟨_, rfl⟩
      obtain ⟨Z0, hZ0⟩ : ∃ Z0, a * x0 = Z0 := ⟨_, rfl⟩
      have t1 : (R1 : Int) / (a : Int) = ((x0 : Nat) : Int) := by rw [← hx0]; exact (Int.natCast_ediv R1 a).symm
      have t2 : (R1 : Int).tdiv (a : Int) = ((x0 : Nat) : Int) := by rw [← hx0]; rfl
      rw [hQ0, hx0] at g1
      rw [hQ0] at gs gd
      rw [hR0] at gm gd
      rw [hQ0, hR0] at HTo
      rw [hx0, hy0, hZ0] at gUa
      rw [hy0] at gUm
      have t3 : IntKind.u64.wrap ((x0 : Int) * (a : Int)) = ((Z0 : Nat) : Int) := by
        rw [IntKind.wrap_u64, ← Int.natCast_mul, Nat.mul_comm x0 a, hZ0]
        omega
      have t4 : (R1 : Int) - ((Z0 : Nat) : Int) = ((y0 : Nat) : Int) := by omega
      have t5 : ((a : Int) == 0) = false := by rw [beq_eq_false_iff_ne]; omega
      have t6 : ¬ (a : Int) = 0 := by omega
      have hxa : x0 * a + y0 = R1 := by rw [Nat.mul_comm, hZ0]; exact gUa
      have hps := Nat.two_pow_pos s
      -- the quotient and the rest
      have z1 : Q1 * 4294967296 + Q0 < 18446744073709551616 := by omega
      have z2 : IntKind.u64.wrap (IntKind.u64.wrap (IntKind.u64.wrap ((R1 : Int) * B) + (n0 : Int)) - IntKind.u64.wrap ((Q0 : Int) * (Y : Int))) = ((R0 : Nat) : Int) := by
        have e : (Q0 : Int) * (Y : Int) = ((Y * Q0 : Nat) : Int) := by rw [Int.natCast_mul, Int.mul_comm]
        have hB := HB.out
        rw [IntKind.wrap_u64, IntKind.wrap_u64, IntKind.wrap_u64, IntKind.wrap_u64, e, ← hB]
        omega
      have z3 : ((R0 : Nat) : Int) / 2 ^ s = ((RR : Nat) : Int) := by
        rw [← HTo.2]
        have : ((RR * 2 ^ s : Nat) : Int) / ((2 ^ s : Nat) : Int) = ((RR : Nat) : Int) := by
          rw [← Int.natCast_ediv, Nat.mul_div_cancel _ hps]
        simpa using this
      have z4 : ((Q1 * 4294967296 + Q0 : Nat) : Int) = ((QQ : Nat) : Int) := by rw [HTo.1]
      have HXA := Lib.hid hxa
      have HQ0 := Lib.hid hQ0
      have Z3 := Lib.hid z3
      have Z4 := Lib.hid z4
      clear hxa hQ0 hR0 hx0 hy0 hZ0 gUa gd HTo HT z3 z4 hps
      obtain ⟨w, hw⟩ : ∃ w, r + a = w := ⟨_, rfl⟩
      have u4 : IntKind.u64.wrap ((r : Int) + (a : Int)) = (w : Int) := by
        rw [IntKind.wrap_u64]
        omega
      have hB := HB.out
      have hexit2 : (q = Q1 ∧ ¬ B ≤ (q : Int) ∧ ¬ (S : Int) < (P : Int)) ∨ (((q : Int) - 1 = (Q1 : Nat)) ∧ B ≤ (q : Int) ∧ B ≤ (w : Int)) ∨ (((q : Int) - 1 = (Q1 : Nat)) ∧ ¬ B ≤ (q : Int) ∧ (S : Int) < (P : Int) ∧ B ≤ (w : Int)) := by omega
      clear hB hw hexit hW hS hPb
      have m1 : IntKind.u64.wrap ((Q1 : Int) * B) = (((Q1 * 4294967296 : Nat)) : Int) := by
        have hB := HB.out
        rw [IntKind.wrap_u64, ← hB]
        omega
      have m2 : IntKind.u64.wrap ((((Q1 * 4294967296 : Nat)) : Int) + (Q0 : Int)) = ((QQ : Nat) : Int) := by
        rw [← Z4.out, IntKind.wrap_u64]
        omega
      obtain ⟨X, hX⟩ : ∃ X, Q1 * 4294967296 = X := ⟨_, rfl⟩
      rw [hX] at m1 m2
      have u6 : IntKind.u64.wrap (Q1 : Int) = (Q1 : Int) := by
        rw [IntKind.wrap_u64]
        omega
      have hyc : y0 < 4294967296 := by omega
      have hxc : x0 ≤ 4294967297 := by omega
      have u7 : IntKind.u64.wrap (x0 : Int) = (x0 : Int) := by
        rw [IntKind.wrap_u64]
        omega
      have u8 : IntKind.u64.wrap (y0 : Int) = (y0 : Int) := by
        rw [IntKind.wrap_u64]
        omega
      have HXX := Lib.hid (And.intro g1 (And.intro hyc hxc))
      have HMD := Lib.hid (And.intro hmod (And.intro hn0l (And.intro ha1 (And.intro ha2 (And.intro hc2 gs)))))
      clear hX g1 hyc hxc z1 Z4 hq1 hq2 hr HQR HP HDM HQ1 h0 hy hl hy2 hmod hn0l ha1 ha2 hc2 gs hUY hY1 hY2 hV2 hn1l hQs gm gUm
      rcases hexit2 with ⟨h0, h1, h2⟩ | ⟨h0, h1, h2⟩ | ⟨h0, h1, h2, h3⟩
      · have h0 := h0.symm
        subst h0
        go_wp2_with fail
        go_loop [16, 18] (fun vr vq => ∃ q r : Nat, vq = .int .u64 (q : Nat) ∧ vr = .int .u64 (r : Nat) ∧ q * a + r = R1 ∧ Q0 ≤ q ∧ q ≤ 4294967297 ∧ r < 4294967296) (fun _ vq => (intOf vq).toNat)
        case atStart => exact ⟨x0, y0, rfl, rfl, HXA.out, HXX.out.1.1, HXX.out.2.2, HXX.out.2.1⟩
        case round =>
          clear h1 h2
          obtain ⟨q, r, rfl, rfl, hqr, hq1, hq2, hr⟩ := hrel
          clear HXA t1 t2 t3 t4 t5 t6 u1 u2 u3 u4 HXX
          obtain ⟨hmod, hn0l, ha1, ha2, hc2, gs⟩ := HMD.out
          obtain ⟨P, hP⟩ : ∃ P, q * c = P := ⟨_, rfl⟩
          have hPb : P ≤ 18446744073709551615 := by
            rw [← hP]
            exact Nat.le_trans (Nat.mul_le_mul hq2 (show c ≤ 4294967295 by omega)) (by omega)
          have u1 : IntKind.u64.wrap ((q : Int) * (c : Int)) = ((P : Nat) : Int) := by
            rw [IntKind.wrap_u64, ← Int.natCast_mul, hP]
            omega
          obtain ⟨W, hW⟩ : ∃ W, 4294967296 * r = W := ⟨_, rfl⟩
          have u2 : IntKind.u64.wrap (B * (r : Int)) = ((W : Nat) : Int) := by
            have hB := HB.out
            rw [IntKind.wrap_u64, ← hB]
            omega
          have u3 : IntKind.u64.wrap ((W : Int) + (n0 : Int)) = (((W + n0 : Nat)) : Int) := by
            rw [IntKind.wrap_u64]
            omega
          obtain ⟨S, hS⟩ : ∃ S, W + n0 = S := ⟨_, rfl⟩
          rw [hS] at u3
          have HQR := Lib.hid hqr
          have HP := Lib.hid hP
          clear hqr hP
          have hcase : ((4294967296 ≤ q ∨ (q < 4294967296 ∧ 4294967296 * r + n0 < P)) ∧ r + a < 4294967296 ∧ Q0 + 1 ≤ q) ∨ (q = Q0 ∧ q < 4294967296 ∧ P ≤ 4294967296 * r + n0) ∨ (4294967296 ≤ q ∧ 4294967296 ≤ r + a ∧ q = Q0 + 1) ∨ (q < 4294967296 ∧ 4294967296 * r + n0 < P ∧ 4294967296 ≤ r + a ∧ q = Q0 + 1) := by
            by_cases t : 4294967296 ≤ q ∨ 4294967296 * r + n0 < P
            · have hg := digit_great HY.out hmod hn0l HQR.out (by rw [HP.out]; exact t)
              rw [HQ0.out] at hg
              by_cases hb : 4294967296 ≤ r + a
              · have hb2 := digit_break (n := n0) (q := q - 1) (r := r + a) HY.out hmod (by
                  have := HQR.out
                  obtain ⟨q', rfl⟩ : ∃ q', q = q' + 1 := ⟨q - 1, by omega⟩
                  rw [Nat.add_mul] at this
                  rw [Nat.add_sub_cancel]
                  omega) (by rw [HQ0.out]; omega) hb (by omega) hc2
                rw [HQ0.out] at hb2
                omega
              · omega
            · have hd := digit_done HY.out hmod HQR.out (by rw [HQ0.out]; exact hq1) (by rw [HP.out]; omega)
              rw [HQ0.out] at hd
              omega
          obtain ⟨w, hw⟩ : ∃ w, r + a = w := ⟨_, rfl⟩
          have u4 : IntKind.u64.wrap ((r : Int) + (a : Int)) = (w : Int) := by
            rw [IntKind.wrap_u64]
            omega
          rcases hcase with ⟨ht, hra, hqq⟩ | hexit
          · obtain ⟨p, hp⟩ : ∃ p, q = p + 1 := ⟨q - 1, by omega⟩
            have hstep : p * a + w = R1 := by
              have := HQR.out
              rw [hp, Nat.add_mul] at this
              omega
            have HST := Lib.hid hstep
            have hqs : (q : Int) - 1 = ((p : Nat) : Int) := by omega
            have i1 : Q0 ≤ p := by omega
            have i2 : p ≤ 4294967297 := by omega
            have i3 : p < q := by omega
            have u5 : IntKind.u64.wrap (p : Int) = (p : Int) := by
              rw [IntKind.wrap_u64]
              omega
            have hra2 : w < 4294967296 := by omega
            have I1 := Lib.hid (And.intro i1 (And.intro i2 (And.intro i3 hra2)))
            have hB := HB.out
            have j2 : (w : Int) < B := by omega
            have j3 : ¬ B ≤ (w : Int) := by omega
            have ht' : B ≤ (q : Int) ∨ ((q : Int) < B ∧ (S : Int) < (P : Int)) := by omega
            clear hB hstep hp ht hw hra2 hPb hW hS hq2 hr hra hqq hq1 i1 i2 i3 hmod hn0l ha1 ha2 hc2 gs v1 m1 m2 z2
            rcases ht' with ht | ⟨ht1, ht2⟩
            all_goals
              go_wp2_with fail
              go_round
              case rel => exact ⟨p, w, rfl, rfl, HST.out, I1.out.1, I1.out.2.1, I1.out.2.2.2⟩
              case measure => have := I1.out; simp [intOf]; omega
          · have hB := HB.out
            have u6 : IntKind.u64.wrap (Q0 : Int) = (Q0 : Int) := by
              rw [IntKind.wrap_u64]
              omega
            have hexit2 : (q = Q0 ∧ ¬ B ≤ (q : Int) ∧ ¬ (S : Int) < (P : Int)) ∨ (((q : Int) - 1 = (Q0 : Nat)) ∧ B ≤ (q : Int) ∧ B ≤ (w : Int)) ∨ (((q : Int) - 1 = (Q0 : Nat)) ∧ ¬ B ≤ (q : Int) ∧ (S : Int) < (P : Int) ∧ B ≤ (w : Int)) := by omega
            have z3 := Z3.out
            clear hB hw hexit hW hS hPb hmod hn0l ha1 ha2 hc2 gs hq1 hq2 hr
            rcases hexit2 with ⟨h0, h1, h2⟩ | ⟨h0, h1, h2⟩ | ⟨h0, h1, h2, h3⟩
            · have h0 := h0.symm
              subst h0
              go_wp2_with fail
              refine bodyPost_ret (v := .tuple #[.int .u64 (QQ : Int), .int .u64 (RR : Int)]) ?_ rfl ⟨rfl, Kp.refl _ _⟩
              simp [results, Tryz.results79, go_sem]
            · go_wp2_with fail
              refine bodyPost_ret (v := .tuple #[.int .u64 (QQ : Int), .int .u64 (RR : Int)]) ?_ rfl ⟨rfl, Kp.refl _ _⟩
              simp [results, Tryz.results79, go_sem]
            · go_wp2_with fail
              refine bodyPost_ret (v := .tuple #[.int .u64 (QQ : Int), .int .u64 (RR : Int)]) ?_ rfl ⟨rfl, Kp.refl _ _⟩
              simp [results, Tryz.results79, go_sem]
      · go_wp2_with fail
        go_loop [16, 18] (fun vr vq => ∃ q r : Nat, vq = .int .u64 (q : Nat) ∧ vr = .int .u64 (r : Nat) ∧ q * a + r = R1 ∧ Q0 ≤ q ∧ q ≤ 4294967297 ∧ r < 4294967296) (fun _ vq => (intOf vq).toNat)
        case atStart => exact ⟨x0, y0, rfl, rfl, HXA.out, HXX.out.1.1, HXX.out.2.2, HXX.out.2.1⟩
        case round =>
          clear h1 h2
          obtain ⟨q, r, rfl, rfl, hqr, hq1, hq2, hr⟩ := hrel
          clear HXA t1 t2 t3 t4 t5 t6 u1 u2 u3 u4 HXX
          obtain ⟨hmod, hn0l, ha1, ha2, hc2, gs⟩ := HMD.out
          obtain ⟨P, hP⟩ : ∃ P, q * c = P := ⟨_, rfl⟩
          have hPb : P ≤ 18446744073709551615 := by
            rw [← hP]
            exact Nat.le_trans (Nat.mul_le_mul hq2 (show c ≤ 4294967295 by omega)) (by omega)
          have u1 : IntKind.u64.wrap ((q : Int) * (c : Int)) = ((P : Nat) : Int) := by
            rw [IntKind.wrap_u64, ← Int.natCast_mul, hP]
            omega
          obtain ⟨W, hW⟩ : ∃ W, 4294967296 * r = W := ⟨_, rfl⟩
          have u2 : IntKind.u64.wrap (B * (r : Int)) = ((W : Nat) : Int) := by
            have hB := HB.out
            rw [IntKind.wrap_u64, ← hB]
            omega
          have u3 : IntKind.u64.wrap ((W : Int) + (n0 : Int)) = (((W + n0 : Nat)) : Int) := by
            rw [IntKind.wrap_u64]
            omega
          obtain ⟨S, hS⟩ : ∃ S, W + n0 = S := ⟨_, rfl⟩
          rw [hS] at u3
          have HQR := Lib.hid hqr
          have HP := Lib.hid hP
          clear hqr hP
          have hcase : ((4294967296 ≤ q ∨ (q < 4294967296 ∧ 4294967296 * r + n0 < P)) ∧ r + a < 4294967296 ∧ Q0 + 1 ≤ q) ∨ (q = Q0 ∧ q < 4294967296 ∧ P ≤ 4294967296 * r + n0) ∨ (4294967296 ≤ q ∧ 4294967296 ≤ r + a ∧ q = Q0 + 1) ∨ (q < 4294967296 ∧ 4294967296 * r + n0 < P ∧ 4294967296 ≤ r + a ∧ q = Q0 + 1) := by
            by_cases t : 4294967296 ≤ q ∨ 4294967296 * r + n0 < P
            · have hg := digit_great HY.out hmod hn0l HQR.out (by rw [HP.out]; exact t)
              rw [HQ0.out] at hg
              by_cases hb : 4294967296 ≤ r + a
              · have hb2 := digit_break (n := n0) (q := q - 1) (r := r + a) HY.out hmod (by
                  have := HQR.out
                  obtain ⟨q', rfl⟩ : ∃ q', q = q' + 1 := ⟨q - 1, by omega⟩
                  rw [Nat.add_mul] at this
                  rw [Nat.add_sub_cancel]
                  omega) (by rw [HQ0.out]; omega) hb (by omega) hc2
                rw [HQ0.out] at hb2
                omega
              · omega
            · have hd := digit_done HY.out hmod HQR.out (by rw [HQ0.out]; exact hq1) (by rw [HP.out]; omega)
              rw [HQ0.out] at hd
              omega
          obtain ⟨w, hw⟩ : ∃ w, r + a = w := ⟨_, rfl⟩
          have u4 : IntKind.u64.wrap ((r : Int) + (a : Int)) = (w : Int) := by
            rw [IntKind.wrap_u64]
            omega
          rcases hcase with ⟨ht, hra, hqq⟩ | hexit
          · obtain ⟨p, hp⟩ : ∃ p, q = p + 1 := ⟨q - 1, by omega⟩
            have hstep : p * a + w = R1 := by
              have := HQR.out
              rw [hp, Nat.add_mul] at this
              omega
            have HST := Lib.hid hstep
            have hqs : (q : Int) - 1 = ((p : Nat) : Int) := by omega
            have i1 : Q0 ≤ p := by omega
            have i2 : p ≤ 4294967297 := by omega
            have i3 : p < q := by omega
            have u5 : IntKind.u64.wrap (p : Int) = (p : Int) := by
              rw [IntKind.wrap_u64]
              omega
            have hra2 : w < 4294967296 := by omega
            have I1 := Lib.hid (And.intro i1 (And.intro i2 (And.intro i3 hra2)))
            have hB := HB.out
            have j2 : (w : Int) < B := by omega
            have j3 : ¬ B ≤ (w : Int) := by omega
            have ht' : B ≤ (q : Int) ∨ ((q : Int) < B ∧ (S : Int) < (P : Int)) := by omega
            clear hB hstep hp ht hw hra2 hPb hW hS hq2 hr hra hqq hq1 i1 i2 i3 hmod hn0l ha1 ha2 hc2 gs v1 m1 m2 z2
            rcases ht' with ht | ⟨ht1, ht2⟩
            all_goals
              go_wp2_with fail
              go_round
              case rel => exact ⟨p, w, rfl, rfl, HST.out, I1.out.1, I1.out.2.1, I1.out.2.2.2⟩
              case measure => have := I1.out; simp [intOf]; omega
          · have hB := HB.out
            have u6 : IntKind.u64.wrap (Q0 : Int) = (Q0 : Int) := by
              rw [IntKind.wrap_u64]
              omega
            have hexit2 : (q = Q0 ∧ ¬ B ≤ (q : Int) ∧ ¬ (S : Int) < (P : Int)) ∨ (((q : Int) - 1 = (Q0 : Nat)) ∧ B ≤ (q : Int) ∧ B ≤ (w : Int)) ∨ (((q : Int) - 1 = (Q0 : Nat)) ∧ ¬ B ≤ (q : Int) ∧ (S : Int) < (P : Int) ∧ B ≤ (w : Int)) := by omega
            have z3 := Z3.out
            clear hB hw hexit hW hS hPb hmod hn0l ha1 ha2 hc2 gs hq1 hq2 hr
            rcases hexit2 with ⟨h0, h1, h2⟩ | ⟨h0, h1, h2⟩ | ⟨h0, h1, h2, h3⟩
            · have h0 := h0.symm
              subst h0
              go_wp2_with fail
              refine bodyPost_ret (v := .tuple #[.int .u64 (QQ : Int), .int .u64 (RR : Int)]) ?_ rfl ⟨rfl, Kp.refl _ _⟩
              simp [results, Tryz.results79, go_sem]
            · go_wp2_with fail
              refine bodyPost_ret (v := .tuple #[.int .u64 (QQ : Int), .int .u64 (RR : Int)]) ?_ rfl ⟨rfl, Kp.refl _ _⟩
              simp [results, Tryz.results79, go_sem]
            · go_wp2_with fail
              refine bodyPost_ret (v := .tuple #[.int .u64 (QQ : Int), .int .u64 (RR : Int)]) ?_ rfl ⟨rfl, Kp.refl _ _⟩
              simp [results, Tryz.results79, go_sem]
      · go_wp2_with fail
        go_loop [16, 18] (fun vr vq => ∃ q r : Nat, vq = .int .u64 (q : Nat) ∧ vr = .int .u64 (r : Nat) ∧ q * a + r = R1 ∧ Q0 ≤ q ∧ q ≤ 4294967297 ∧ r < 4294967296) (fun _ vq => (intOf vq).toNat)
        case atStart => exact ⟨x0, y0, rfl, rfl, HXA.out, HXX.out.1.1, HXX.out.2.2, HXX.out.2.1⟩
        case round =>
          clear h1 h2
          obtain ⟨q, r, rfl, rfl, hqr, hq1, hq2, hr⟩ := hrel
          clear HXA t1 t2 t3 t4 t5 t6 u1 u2 u3 u4 HXX
          obtain ⟨hmod, hn0l, ha1, ha2, hc2, gs⟩ := HMD.out
          obtain ⟨P, hP⟩ : ∃ P, q * c = P := ⟨_, rfl⟩
          have hPb : P ≤ 18446744073709551615 := by
            rw [← hP]
            exact Nat.le_trans (Nat.mul_le_mul hq2 (show c ≤ 4294967295 by omega)) (by omega)
          have u1 : IntKind.u64.wrap ((q : Int) * (c : Int)) = ((P : Nat) : Int) := by
            rw [IntKind.wrap_u64, ← Int.natCast_mul, hP]
            omega
          obtain ⟨W, hW⟩ : ∃ W, 4294967296 * r = W := ⟨_, rfl⟩
          have u2 : IntKind.u64.wrap (B * (r : Int)) = ((W : Nat) : Int) := by
            have hB := HB.out
            rw [IntKind.wrap_u64, ← hB]
            omega
          have u3 : IntKind.u64.wrap ((W : Int) + (n0 : Int)) = (((W + n0 : Nat)) : Int) := by
            rw [IntKind.wrap_u64]
            omega
          obtain ⟨S, hS⟩ : ∃ S, W + n0 = S := ⟨_, rfl⟩
          rw [hS] at u3
          have HQR := Lib.hid hqr
          have HP := Lib.hid hP
          clear hqr hP
          have hcase : ((4294967296 ≤ q ∨ (q < 4294967296 ∧ 4294967296 * r + n0 < P)) ∧ r + a < 4294967296 ∧ Q0 + 1 ≤ q) ∨ (q = Q0 ∧ q < 4294967296 ∧ P ≤ 4294967296 * r + n0) ∨ (4294967296 ≤ q ∧ 4294967296 ≤ r + a ∧ q = Q0 + 1) ∨ (q < 4294967296 ∧ 4294967296 * r + n0 < P ∧ 4294967296 ≤ r + a ∧ q = Q0 + 1) := by
            by_cases t : 4294967296 ≤ q ∨ 4294967296 * r + n0 < P
            · have hg := digit_great HY.out hmod hn0l HQR.out (by rw [HP.out]; exact t)
              rw [HQ0.out] at hg
              by_cases hb : 4294967296 ≤ r + a
              · have hb2 := digit_break (n := n0) (q := q - 1) (r := r + a) HY.out hmod (by
                  have := HQR.out
                  obtain ⟨q', rfl⟩ : ∃ q', q = q' + 1 := ⟨q - 1, by omega⟩
                  rw [Nat.add_mul] at this
                  rw [Nat.add_sub_cancel]
                  omega) (by rw [HQ0.out]; omega) hb (by omega) hc2
                rw [HQ0.out] at hb2
                omega
              · omega
            · have hd := digit_done HY.out hmod HQR.out (by rw [HQ0.out]; exact hq1) (by rw [HP.out]; omega)
              rw [HQ0.out] at hd
              omega
          obtain ⟨w, hw⟩ : ∃ w, r + a = w := ⟨_, rfl⟩
          have u4 : IntKind.u64.wrap ((r : Int) + (a : Int)) = (w : Int) := by
            rw [IntKind.wrap_u64]
            omega
          rcases hcase with ⟨ht, hra, hqq⟩ | hexit
          · obtain ⟨p, hp⟩ : ∃ p, q = p + 1 := ⟨q - 1, by omega⟩
            have hstep : p * a + w = R1 := by
              have := HQR.out
              rw [hp, Nat.add_mul] at this
              omega
            have HST := Lib.hid hstep
            have hqs : (q : Int) - 1 = ((p : Nat) : Int) := by omega
            have i1 : Q0 ≤ p := by omega
            have i2 : p ≤ 4294967297 := by omega
            have i3 : p < q := by omega
            have u5 : IntKind.u64.wrap (p : Int) = (p : Int) := by
              rw [IntKind.wrap_u64]
              omega
            have hra2 : w < 4294967296 := by omega
            have I1 := Lib.hid (And.intro i1 (And.intro i2 (And.intro i3 hra2)))
            have hB := HB.out
            have j2 : (w : Int) < B := by omega
            have j3 : ¬ B ≤ (w : Int) := by omega
            have ht' : B ≤ (q : Int) ∨ ((q : Int) < B ∧ (S : Int) < (P : Int)) := by omega
            clear hB hstep hp ht hw hra2 hPb hW hS hq2 hr hra hqq hq1 i1 i2 i3 hmod hn0l ha1 ha2 hc2 gs v1 m1 m2 z2
            rcases ht' with ht | ⟨ht1, ht2⟩
            all_goals
              go_wp2_with fail
              go_round
              case rel => exact ⟨p, w, rfl, rfl, HST.out, I1.out.1, I1.out.2.1, I1.out.2.2.2⟩
              case measure => have := I1.out; simp [intOf]; omega
          · have hB := HB.out
            have u6 : IntKind.u64.wrap (Q0 : Int) = (Q0 : Int) := by
              rw [IntKind.wrap_u64]
              omega
            have hexit2 : (q = Q0 ∧ ¬ B ≤ (q : Int) ∧ ¬ (S : Int) < (P : Int)) ∨ (((q : Int) - 1 = (Q0 : Nat)) ∧ B ≤ (q : Int) ∧ B ≤ (w : Int)) ∨ (((q : Int) - 1 = (Q0 : Nat)) ∧ ¬ B ≤ (q : Int) ∧ (S : Int) < (P : Int) ∧ B ≤ (w : Int)) := by omega
            have z3 := Z3.out
            clear hB hw hexit hW hS hPb hmod hn0l ha1 ha2 hc2 gs hq1 hq2 hr
            rcases hexit2 with ⟨h0, h1, h2⟩ | ⟨h0, h1, h2⟩ | ⟨h0, h1, h2, h3⟩
            · have h0 := h0.symm
              subst h0
              go_wp2_with fail
              refine bodyPost_ret (v := .tuple #[.int .u64 (QQ : Int), .int .u64 (RR : Int)]) ?_ rfl ⟨rfl, Kp.refl _ _⟩
              simp [results, Tryz.results79, go_sem]
            · go_wp2_with fail
              refine bodyPost_ret (v := .tuple #[.int .u64 (QQ : Int), .int .u64 (RR : Int)]) ?_ rfl ⟨rfl, Kp.refl _ _⟩
              simp [results, Tryz.results79, go_sem]
            · go_wp2_with fail
              refine bodyPost_ret (v := .tuple #[.int .u64 (QQ : Int), .int .u64 (RR : Int)]) ?_ rfl ⟨rfl, Kp.refl _ _⟩
              simp [results, Tryz.results79, go_sem]
theorem div_any (hi lo y : Nat) (w : World) (hy : hi < y) (hl : lo < 18446744073709551616) (hy2 : y < 18446744073709551616) :
    Calls Tryz.prog 79 #[.int .u64 (hi : Nat), .int .u64 (lo : Nat), .int .u64 (y : Nat)] w fun e w' => e = .returned (.tuple #[.int .u64 (((hi * 18446744073709551616 + lo) / y : Nat) : Int), .int .u64 (((hi * 18446744073709551616 + lo) % y : Nat) : Int)]) ∧ Kp No w w' := by
  rcases Nat.eq_zero_or_pos hi with h | h
  · subst h
    have := div_low lo y w (by omega) hl hy2
    simpa using this
  · exact div_high hi lo y w h hy hl hy2
end Go.Proofs.YtakgcnjpmpcekaaGreat
