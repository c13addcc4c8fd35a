/- spans: root, of the second degree. -/
import Derived.Test.YtlieijnhaolnhaaSpw
namespace Go.Proofs.Ytlieijnhaolnhaa
open Go.RowKit Go.Kq

set_option maxHeartbeats 2000000 in
theorem root_any (n : Nat) (w : World) (hn : n ≤ 4611686018427387904) :
    Calls Try.prog 55 #[.int .u64 (n : Nat), .int .i64 2] w fun e w' => e = .returned (.int .u64 ((isq n : Nat) : Int)) ∧ w' = w := by
  have hw1 : IntKind.u64.wrap ((n : Int) + 1) = ((n + 1 : Nat) : Int) := by rw [IntKind.wrap_u64]; omega
  obtain ⟨h0, hh0⟩ : ∃ h0, (if n + 1 ≤ 4294967296 then n + 1 else 4294967296) = h0 := ⟨_, rfl⟩
  have hh1 : 0 < h0 := by rw [← hh0]; split <;> omega
  have hh2 : h0 ≤ 4294967296 := by rw [← hh0]; split <;> omega
  have hh3 : n < h0 * h0 := by
    rw [← hh0]
    split
    · exact Nat.lt_of_lt_of_le (Nat.lt_succ_self n) (Nat.le_mul_of_pos_left _ (by omega))
    · omega
  have hmin : min ((n + 1 : Nat) : Int) 4294967296 = ((h0 : Nat) : Int) := by rw [← hh0]; split <;> omega
  have HH := Lib.hid (And.intro hh1 (And.intro hh2 hh3))
  have HM := Lib.hid hmin
  clear hh0 hh1 hh2 hh3 hmin
  go_enter Try.func55, Try.ntmps55
  go_wp2_with fail
  go_loop [5, 6] (fun lo hi => ∃ a b : Nat, lo = .int .u64 (a : Nat) ∧ hi = .int .u64 (b : Nat) ∧ a < b ∧ b ≤ 4294967296 ∧ a * a ≤ n ∧ n < b * b) (fun lo hi => (intOf hi - intOf lo).toNat)
  case atStart => exact ⟨0, h0, rfl, by rw [← HM.out, Int.natCast_add]; rfl, HH.out.1, HH.out.2.1, by omega, HH.out.2.2⟩
  case round =>
    obtain ⟨a, b, rfl, rfl, h1, h2, h3, h4⟩ := hrel
    clear HM HH
    obtain ⟨d, hd⟩ : ∃ d, b - a = d := ⟨_, rfl⟩
    obtain ⟨e, he⟩ : ∃ e, d / 2 = e := ⟨_, rfl⟩
    obtain ⟨m, hm⟩ : ∃ m, a + e = m := ⟨_, rfl⟩
    have s1 : (b : Int) - (a : Int) = (d : Int) := by omega
    have s2 : (d : Int) / 2 = (e : Int) := by omega
    have s3 : (a : Int) + (e : Int) = (m : Int) := by omega
    have w1 : IntKind.u64.wrap (d : Int) = (d : Int) := by rw [IntKind.wrap_u64]; omega
    have w2 : IntKind.u64.wrap (m : Int) = (m : Int) := by rw [IntKind.wrap_u64]; omega
    have w3 : IntKind.u64.wrap (e : Int) = (e : Int) := by rw [IntKind.wrap_u64]; omega
    by_cases hgt : (1 : Int) < (d : Int)
    · have hma : a < m := by omega
      have hmb : m < b := by omega
      have PW := fun w0 => power_any m w0 (by omega)
      by_cases hle : m * m ≤ n
      · have hc1 : ((m * m : Nat) : Int) ≤ 4611686018427387904 := by omega
        have hc2 : ((m * m : Nat) : Int) ≤ (n : Int) := by omega
        rw [if_pos hc1, decide_eq_true hc1] at PW
        obtain ⟨q, hq⟩ : ∃ q, m * m = q := ⟨_, rfl⟩
        rw [hq] at hc2 PW
        have P := Lib.hid PW
        have F := Lib.hid (And.intro hmb (And.intro h2 (And.intro hle (And.intro h4 hma))))
        clear PW hc1 hmb h1 h2 h3 h4 hle hq hd he hm hn
        go_wp2_with fail
        with_reducible refine (P.out _).mono ?_
        rintro e w3 ⟨rfl, hw⟩
        subst hw
        go_wp2_with fail
        go_round
        case rel => exact ⟨m, b, rfl, rfl, F.out.1, F.out.2.1, F.out.2.2.1, F.out.2.2.2.1⟩
        case measure => have := F.out; simp [intOf]; omega
      · by_cases hc1 : ((m * m : Nat) : Int) ≤ 4611686018427387904
        · have hc2 : ¬ ((m * m : Nat) : Int) ≤ (n : Int) := by omega
          rw [if_pos hc1, decide_eq_true hc1] at PW
          obtain ⟨q, hq⟩ : ∃ q, m * m = q := ⟨_, rfl⟩
          have F := Lib.hid (And.intro hma (And.intro (show m ≤ 4294967296 by omega) (And.intro h3 (And.intro (show n < m * m by omega) hmb))))
          rw [hq] at hc2 PW
          have P := Lib.hid PW
          clear PW hc1 hma hmb h1 h2 h3 h4 hle hq hd he hm hn
          go_wp2_with fail
          with_reducible refine (P.out _).mono ?_
          rintro e w3 ⟨rfl, hw⟩
          subst hw
          go_wp2_with fail
          go_round
          case rel => exact ⟨a, m, rfl, rfl, F.out.1, F.out.2.1, F.out.2.2.1, F.out.2.2.2.1⟩
          case measure => have := F.out; simp [intOf]; omega
        · rw [if_neg hc1, decide_eq_false hc1] at PW
          have F := Lib.hid (And.intro hma (And.intro (show m ≤ 4294967296 by omega) (And.intro h3 (And.intro (show n < m * m by omega) hmb))))
          have P := Lib.hid PW
          clear PW hc1 hma hmb h1 h2 h3 h4 hle hd he hm hn
          go_wp2_with fail
          with_reducible refine (P.out _).mono ?_
          rintro e w3 ⟨rfl, hw⟩
          subst hw
          go_wp2_with fail
          go_round
          case rel => exact ⟨a, m, rfl, rfl, F.out.1, F.out.2.1, F.out.2.2.1, F.out.2.2.2.1⟩
          case measure => have := F.out; simp [intOf]; omega
    · have hb1 : b = a + 1 := by omega
      have hr : a = isq n := isq_unique h3 (by rw [← hb1]; exact h4)
      have HR := Lib.hid hr
      clear hr h2 h3 h4
      go_wp2_with fail
      go_ret
      exact ⟨by rw [← HR.out]; rfl, rfl⟩
end Go.Proofs.Ytlieijnhaolnhaa
