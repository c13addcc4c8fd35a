/- spans: disc, Disc, of a small one. -/
import Derived.Test.YtlieijnhaolnhaaSpn
import Derived.Test.YtlieijnhaolnhaaLibTake
import Derived.Shelf.Spec.BitsCarry
namespace Go.Proofs.Ytlieijnhaolnhaa
open Go.RowKit Go.Kq

set_option maxHeartbeats 2000000 in
theorem disc_parts (up : Bool) (n m p D more low q r : Int) (w : World)
    (hp : p = if up then 3141592653589793239 else 3141592653589793238)
    (hD : D = 4000000000000000000)
    (M1 : Hid (∀ w0, Calls Try.prog 86 #[.int .u64 n, .int .u64 n] w0 fun e w' => e = .returned (.tuple #[.int .u64 0, .int .u64 m]) ∧ w' = w0))
    (M2 : Hid (∀ w0, Calls Try.prog 86 #[.int .u64 0, .int .u64 p] w0 fun e w' => e = .returned (.tuple #[.int .u64 0, .int .u64 0]) ∧ w' = w0))
    (M3 : Hid (∀ w0, Calls Try.prog 86 #[.int .u64 m, .int .u64 p] w0 fun e w' => e = .returned (.tuple #[.int .u64 more, .int .u64 low]) ∧ w' = w0))
    (D1 : Hid (∀ w0, Calls Try.prog 89 #[.int .u64 0, .int .u64 more, .int .u64 D] w0 fun e w' => e = .returned (.tuple #[.int .u64 0, .int .u64 more]) ∧ Kp No w0 w'))
    (D2 : Hid (∀ w0, Calls Try.prog 89 #[.int .u64 more, .int .u64 low, .int .u64 D] w0 fun e w' => e = .returned (.tuple #[.int .u64 q, .int .u64 r]) ∧ Kp No w0 w'))
    (A1 : Hid (∀ w0, (callFunc 88 #[.int .u64 0, .int .u64 more, .int .u64 0]).run Try.prog w0 = .ok (.value (.tuple #[.int .u64 more, .int .u64 0])) w0))
    (hq : q < 4611686018427387904) (hq0 : 0 ≤ q) :
    Calls Try.prog 57 #[.int .u64 n, .bool up] w fun e w' => e = .returned (.tuple #[.int .i64 (if up then (if r = 0 then q else q + 1) else q), .bool true]) ∧ Kp No w w' := by
  have hwq : IntKind.i64.wrap q = q := by rw [IntKind.wrap_i64]; omega
  have hwq1 : IntKind.i64.wrap (q + 1) = q + 1 := by rw [IntKind.wrap_i64]; omega
  have hwu1 : IntKind.u64.wrap (q + 1) = q + 1 := by rw [IntKind.wrap_u64]; omega
  have hq4 : ¬ 4611686018427387904 < q := by omega
  have hq5 : q ≤ 4611686018427387904 := by omega
  have hq6 : q + 1 ≤ 4611686018427387904 := by omega
  cases up
  · simp only [Bool.false_eq_true, if_false] at hp ⊢
    go_enter Try.func57, Try.ntmps57
    rw [← hp, ← hD]
    clear hp hD
    go_wp2_with fail
    refine (M1.out _).mono ?_
    rintro e w1 ⟨rfl, hw⟩
    subst hw
    go_wp2_with fail
    refine (M2.out _).mono ?_
    rintro e w2 ⟨rfl, hw⟩
    subst hw
    go_wp2_with fail
    refine (M3.out _).mono ?_
    rintro e w3 ⟨rfl, hw⟩
    subst hw
    have hA := A1.out
    go_wp2_with fail
    clear hA
    refine (D1.out _).mono ?_
    rintro e w4 ⟨rfl, k4⟩
    go_wp2_with fail
    refine (D2.out _).mono ?_
    rintro e w5 ⟨rfl, k5⟩
    go_wp2_with fail
    refine bodyPost_ret (v := .tuple #[.int .i64 q, .bool true]) (by simp [results, Try.results57, go_sem]) rfl ⟨rfl, k4.tr k5⟩
  · simp only [if_true] at hp ⊢
    by_cases hr : r = 0
    · subst hr
      rw [if_pos rfl]
      go_enter Try.func57, Try.ntmps57
      rw [← hp, ← hD]
      clear hp hD
      go_wp2_with fail
      refine (M1.out _).mono ?_
      rintro e w1 ⟨rfl, hw⟩
      subst hw
      go_wp2_with fail
      refine (M2.out _).mono ?_
      rintro e w2 ⟨rfl, hw⟩
      subst hw
      go_wp2_with fail
      refine (M3.out _).mono ?_
      rintro e w3 ⟨rfl, hw⟩
      subst hw
      have hA := A1.out
      go_wp2_with fail
      clear hA
      refine (D1.out _).mono ?_
      rintro e w4 ⟨rfl, k4⟩
      go_wp2_with fail
      refine (D2.out _).mono ?_
      rintro e w5 ⟨rfl, k5⟩
      go_wp2_with fail
      refine bodyPost_ret (v := .tuple #[.int .i64 q, .bool true]) (by simp [results, Try.results57, go_sem]) rfl ⟨rfl, k4.tr k5⟩
    · rw [if_neg hr]
      have hr' : (r == 0) = false := by rw [beq_eq_false_iff_ne]; exact hr
      go_enter Try.func57, Try.ntmps57
      rw [← hp, ← hD]
      clear hp hD
      go_wp2_with fail
      refine (M1.out _).mono ?_
      rintro e w1 ⟨rfl, hw⟩
      subst hw
      go_wp2_with fail
      refine (M2.out _).mono ?_
      rintro e w2 ⟨rfl, hw⟩
      subst hw
      go_wp2_with fail
      refine (M3.out _).mono ?_
      rintro e w3 ⟨rfl, hw⟩
      subst hw
      have hA := A1.out
      go_wp2_with fail
      clear hA
      refine (D1.out _).mono ?_
      rintro e w4 ⟨rfl, k4⟩
      go_wp2_with fail
      refine (D2.out _).mono ?_
      rintro e w5 ⟨rfl, k5⟩
      go_wp2_with fail
      refine bodyPost_ret (v := .tuple #[.int .i64 (q + 1), .bool true]) (by simp [results, Try.results57, go_sem]) rfl ⟨rfl, k4.tr k5⟩
def piN (up : Bool) : Nat := if up then 3141592653589793239 else 3141592653589793238
theorem up_law (q r : Nat) : ((q + (if r ≠ 0 then 1 else 0) : Nat) : Int) = if ((r : Nat) : Int) = 0 then ((q : Nat) : Int) else ((q : Nat) : Int) + 1 := by
  by_cases hz : r = 0
  · subst hz
    simp
  · rw [if_pos hz, if_neg (by omega)]
    omega
theorem dlo_gen (n k d : Nat) : rnd false ((n : Int) * (n : Int) * (k : Int)) (d : Int) = ((n * n * k / d : Nat) : Int) := by
  unfold rnd
  rw [if_neg (by simp), ← Int.natCast_mul, ← Int.natCast_mul, ← Int.natCast_ediv]
theorem dhi_gen (n k d : Nat) (hd : 0 < d) : rnd true ((n : Int) * (n : Int) * (k : Int)) (d : Int) = if ((n * n * k % d : Nat) : Int) = 0 then ((n * n * k / d : Nat) : Int) else ((n * n * k / d : Nat) : Int) + 1 := by
  unfold rnd
  rw [if_pos rfl, ← Int.natCast_mul, ← Int.natCast_mul, neg_div hd, Int.neg_neg]
  exact up_law _ _
theorem disc_law (n : Nat) (up : Bool) : (if up then dhi n else dlo n) = if up then (if (((n * n * piN up) % 4000000000000000000 : Nat) : Int) = 0 then (((n * n * piN up) / 4000000000000000000 : Nat) : Int) else (((n * n * piN up) / 4000000000000000000 : Nat) : Int) + 1) else (((n * n * piN up) / 4000000000000000000 : Nat) : Int) := by
  have h1 := dlo_gen n (piN false) 4000000000000000000
  have h2 := dhi_gen n (piN true) 4000000000000000000 (by omega)
  have k1 : ((piN false : Nat) : Int) = 3141592653589793238 := by unfold piN; simp
  have k2 : ((piN true : Nat) : Int) = 3141592653589793239 := by unfold piN; simp
  have k3 : ((4000000000000000000 : Nat) : Int) = 4000000000000000000 := by omega
  rw [k1, k3] at h1
  rw [k2, k3] at h2
  cases up
  · rw [if_neg (by simp), if_neg (by simp)]
    exact h1
  · rw [if_pos rfl, if_pos rfl]
    exact h2
set_option maxHeartbeats 2000000 in
theorem disc_ok (n : Nat) (up : Bool) (w : World) (hn : n ≤ 100000) :
    Calls Try.prog 57 #[.int .u64 (n : Nat), .bool up] w fun e w' => e = .returned (.tuple #[.int .i64 (if up then dhi n else dlo n), .bool true]) ∧ Kp No w w' := by
  have hm : n * n ≤ 10000000000 := Nat.mul_le_mul hn hn
  obtain ⟨m, hmd⟩ : ∃ m, n * n = m := ⟨_, rfl⟩
  rw [hmd] at hm
  have hp1 : piN up ≤ 3141592653589793239 := by unfold piN; split <;> omega
  have hM : m * piN up ≤ 10000000000 * 3141592653589793239 := Nat.mul_le_mul hm hp1
  have hpI : ((piN up : Nat) : Int) = if up then 3141592653589793239 else 3141592653589793238 := by unfold piN; cases up <;> rfl
  have hres := disc_law n up
  rw [hmd] at hres
  rw [hres]
  have hmore : m * piN up / 18446744073709551616 < 4000000000000000000 := by omega
  have hdm := Nat.div_add_mod (m * piN up) 18446744073709551616
  have hlow := Nat.mod_lt (m * piN up) (show 0 < 18446744073709551616 by omega)
  have hqb : m * piN up / 4000000000000000000 < 4611686018427387904 := by omega
  have M1 := Lib.hid (fun w0 => Any.bits_Mul64 mul64 n n (by omega) (by omega) w0)
  have M2 := Lib.hid (fun w0 => Any.bits_Mul64 mul64 0 (piN up) (by omega) (by omega) w0)
  have M3 := Lib.hid (fun w0 => Any.bits_Mul64 mul64 m (piN up) (by omega) (by omega) w0)
  rw [Nat.mul_comm 18446744073709551616] at hdm
  rw [hmd, Nat.div_eq_of_lt (show m < 18446744073709551616 by omega), Nat.mod_eq_of_lt (show m < 18446744073709551616 by omega)] at M1
  rw [Nat.zero_mul, Nat.zero_div, Nat.zero_mod] at M2
  generalize m * piN up / 18446744073709551616 = mo at *
  generalize m * piN up % 18446744073709551616 = lw at *
  have D2 := Lib.hid (fun w0 => div_any mo lw 4000000000000000000 w0 hmore hlow (by omega))
  rw [hdm] at D2
  generalize m * piN up / 4000000000000000000 = q at *
  generalize m * piN up % 4000000000000000000 = r at *
  have D1 : Hid (∀ w0, Calls Try.prog 89 #[.int .u64 0, .int .u64 (mo : Nat), .int .u64 4000000000000000000] w0 fun e w' => e = .returned (.tuple #[.int .u64 0, .int .u64 (mo : Nat)]) ∧ Kp No w0 w') := by
    refine Lib.hid fun w0 => ?_
    have h := div_any 0 mo 4000000000000000000 w0 (by omega) (by omega) (by omega)
    have e1 : (0 * 18446744073709551616 + mo) / 4000000000000000000 = 0 := by omega
    have e2 : (0 * 18446744073709551616 + mo) % 4000000000000000000 = mo := by omega
    rw [e1, e2] at h
    exact h
  have A1 : Hid (∀ w0, (callFunc 88 #[.int .u64 0, .int .u64 (mo : Nat), .int .u64 0]).run Try.prog w0 = .ok (.value (.tuple #[.int .u64 (mo : Nat), .int .u64 0])) w0) := by
    refine Lib.hid fun w0 => ?_
    have h := Any7.bits_Add64 add64 0 mo 0 (by omega) w0
    have e1 : (0 + mo + 0) / 18446744073709551616 = 0 := by omega
    have e2 : (0 + mo + 0) % 18446744073709551616 = mo := by omega
    rw [e1, e2] at h
    exact h
  exact disc_parts up n m (piN up : Nat) 4000000000000000000 mo lw q r w hpI rfl M1 M2 M3 D1 D2 A1 (by omega) (by omega)
end Go.Proofs.Ytlieijnhaolnhaa
