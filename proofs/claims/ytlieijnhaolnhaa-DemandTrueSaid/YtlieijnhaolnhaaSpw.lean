/- spans: power, of the second degree. -/
import Derived.Test.YtlieijnhaolnhaaSpk
namespace Go.Proofs.Ytlieijnhaolnhaa
open Go.RowKit Go.Kq

set_option maxHeartbeats 2000000 in
theorem power_parts (n s : Int) (w : World) (h0 : 0 ≤ n) (h1 : n < 4294967296) (hs : n < 2 → s = n)
    (M1 : Hid (∀ w0, Calls Try.prog 86 #[.int .u64 1, .int .u64 n] w0 fun e w' => e = .returned (.tuple #[.int .u64 0, .int .u64 n]) ∧ w' = w0))
    (M2 : Hid (∀ w0, Calls Try.prog 86 #[.int .u64 n, .int .u64 n] w0 fun e w' => e = .returned (.tuple #[.int .u64 0, .int .u64 s]) ∧ w' = w0)) :
    Calls Try.prog 56 #[.int .u64 n, .int .i64 2] w fun e w' => e = .returned (.tuple #[.int .u64 (if s ≤ 4611686018427387904 then s else 0), .bool (decide (s ≤ 4611686018427387904))]) ∧ w' = w := by
  by_cases hn : n < 2
  · have hs1 := hs hn
    subst hs1
    have hle : s ≤ 4611686018427387904 := by omega
    rw [if_pos hle, decide_eq_true hle]
    clear M1 M2 hs
    go_enter Try.func56, Try.ntmps56
    go_wp2_with fail
    exact bodyPost_ret (v := .tuple #[.int .u64 s, .bool true]) (by simp [results, Try.results56, go_sem]) rfl ⟨rfl, rfl⟩
  · clear hs
    have hn2 : 2 ≤ n := by omega
    go_enter Try.func56, Try.ntmps56
    go_wp2_with fail
    go_loop [6, 17] (fun o i => (o = .int .u64 1 ∧ i = .int .i64 0) ∨ (o = .int .u64 n ∧ i = .int .i64 1) ∨ (o = .int .u64 s ∧ i = .int .i64 2 ∧ s ≤ 4611686018427387904)) (fun _ i => 2 - (intOf i).toNat)
    case atStart => exact .inl ⟨rfl, rfl⟩
    case round =>
      rcases hrel with ⟨rfl, rfl⟩ | ⟨rfl, rfl⟩ | ⟨rfl, rfl, hle⟩
      · have hnM : n ≤ 4611686018427387904 := by omega
        go_wp2_with fail
        refine (M1.out _).mono ?_
        rintro e w1 ⟨rfl, hw⟩
        subst hw
        go_wp2_with fail
        go_round
        case rel => exact .inr (.inl ⟨rfl, rfl⟩)
        case measure => simp [intOf]
      · by_cases hle : s ≤ 4611686018427387904
        · go_wp2_with fail
          refine (M2.out _).mono ?_
          rintro e w1 ⟨rfl, hw⟩
          subst hw
          go_wp2_with fail
          go_round
          case rel => exact .inr (.inr ⟨rfl, rfl, hle⟩)
          case measure => simp [intOf]
        · have hd : decide (s ≤ 4611686018427387904) = false := decide_eq_false hle
          have hr : (if s ≤ 4611686018427387904 then s else 0) = 0 := if_neg hle
          have HD := Lib.hid (And.intro hd hr)
          clear hd hr
          go_wp2_with fail
          refine (M2.out _).mono ?_
          rintro e w1 ⟨rfl, hw⟩
          subst hw
          go_wp2_with fail
          exact bodyPost_ret (v := .tuple #[.int .u64 0, .bool false]) (by simp [results, Try.results56, go_sem]) rfl ⟨by first | rw [HD.out.1, HD.out.2] | rfl, rfl⟩
      · have hd : decide (s ≤ 4611686018427387904) = true := decide_eq_true hle
        have hr : (if s ≤ 4611686018427387904 then s else 0) = s := if_pos hle
        have HD := Lib.hid (And.intro hd hr)
        clear hd hr
        go_wp2_with fail
        exact bodyPost_ret (v := .tuple #[.int .u64 s, .bool true]) (by simp [results, Try.results56, go_sem]) rfl ⟨by first | rw [HD.out.1, HD.out.2] | rfl, rfl⟩
/-- power at k = 2, of less than 2^32. -/
theorem power_any (n : Nat) (w : World) (hn : n < 4294967296) :
    Calls Try.prog 56 #[.int .u64 (n : Nat), .int .i64 2] w fun e w' => e = .returned (.tuple #[.int .u64 (if ((n * n : Nat) : Int) ≤ 4611686018427387904 then ((n * n : Nat) : Int) else 0), .bool (decide (((n * n : Nat) : Int) ≤ 4611686018427387904))]) ∧ w' = w := by
  have hm : n * n < 18446744073709551616 := by
    have h := Nat.mul_le_mul (show n ≤ 4294967295 by omega) (show n ≤ 4294967295 by omega)
    omega
  have M1 := Lib.hid (fun w0 => Any.bits_Mul64 mul64 1 n (by omega) (by omega) w0)
  have M2 := Lib.hid (fun w0 => Any.bits_Mul64 mul64 n n (by omega) (by omega) w0)
  rw [Nat.one_mul, Nat.div_eq_of_lt (show n < 18446744073709551616 by omega), Nat.mod_eq_of_lt (show n < 18446744073709551616 by omega)] at M1
  rw [Nat.div_eq_of_lt hm, Nat.mod_eq_of_lt hm] at M2
  have hs : (n : Int) < 2 → ((n * n : Nat) : Int) = (n : Int) := by
    intro h
    have : n = 0 ∨ n = 1 := by omega
    rcases this with rfl | rfl <;> rfl
  exact power_parts n (n * n : Nat) w (by omega) (by omega) hs M1 M2
end Go.Proofs.Ytlieijnhaolnhaa
