/- Chapter 09: Foot: plain. · spans: power, of the second degree. · spans: root, of the second degree. · spans: Root, of the second degree. -/
import Derived.Test.YtamjhpdgclbfgaaGreatXRfAM
import Derived.Test.YtamjhpdgclbfgaaGreatXLibTakeM
import Derived.Test.YtamjhpdgclbfgaaGreatXSpzM
import Derived.Test.YtamjhpdgclbfgaaGreatXSpn
import Derived.Test.YtamjhpdgclbfgaaGreatXSpyM
namespace Go.Proofs.YtamjhpdgclbfgaaGreat
open Go.RowKit Go.Kq

def slR (top toe l : Int) : Int := 4 * l * l + (top - toe) * (top - toe)
def slL (r : Int) : Int := rnd false (isq r.toNat : Nat) 2
def slH (r : Int) : Int := rnd true (csq r.toNat : Nat) 2
def footH (top toe l : Int) : Int := slH (slR top toe l) + rnd true (piU (piU (top * (top - toe)))) (slL (slR top toe l) * 8)
def footV (top toe l s : Int) : Ct × Int := if outB toe 0 1000000 then (⟨0, 0⟩, 2) else if bodyE top l s then (⟨0, 0⟩, 2) else if top < toe then (⟨0, 0⟩, 7) else (⟨piU top + s, footH top toe l⟩, 0)
theorem sl_bd {top toe l : Int} (ht : 1000 ≤ top ∧ top ≤ 1000000) (hl : 1000 ≤ l ∧ l ≤ 12000000) (h0 : 0 ≤ toe ∧ toe ≤ top) : 4000000 ≤ slR top toe l ∧ slR top toe l ≤ 577000000000000 ∧ 1000000 ≤ l * l ∧ l * l ≤ 144000000000000 ∧ 0 ≤ (top - toe) * (top - toe) ∧ (top - toe) * (top - toe) ≤ 1000000000000 ∧ 4 * l * l = 4 * (l * l) := by
  have e : 4 * l * l = 4 * (l * l) := Int.mul_assoc _ _ _
  have a1 := Int.mul_le_mul (a := 1000) (b := 1000) (c := l) (d := l) (by omega) (by omega) (by omega) (by omega)
  have a2 := Int.mul_le_mul (a := l) (b := l) (c := 12000000) (d := 12000000) (by omega) (by omega) (by omega) (by omega)
  have a3 := Int.mul_nonneg (a := top - toe) (b := top - toe) (by omega) (by omega)
  have a4 := Int.mul_le_mul (a := top - toe) (b := top - toe) (c := 1000000) (d := 1000000) (by omega) (by omega) (by omega) (by omega)
  unfold slR
  rw [e]
  omega
theorem sl_in {r : Int} (h : 4000000 ≤ r ∧ r ≤ 577000000000000) : 1000 ≤ slL r ∧ slL r ≤ slH r ∧ slH r ≤ 40000000 := by
  have e1 : slL r = ((isq r.toNat : Nat) : Int) / 2 := rfl
  have e2 : slH r = -((-((csq r.toNat : Nat) : Int)) / 2) := rfl
  obtain ⟨b1, b2⟩ := isq_spec r.toNat
  obtain ⟨c1, c2, c3⟩ := csq_le r.toNat
  have h1 : 2000 ≤ isq r.toNat := by
    rcases Nat.lt_or_ge (isq r.toNat) 2000 with hlt | hge
    · have := Nat.mul_le_mul (show isq r.toNat + 1 ≤ 2000 by omega) (show isq r.toNat + 1 ≤ 2000 by omega)
      omega
    · exact hge
  have h2 : isq r.toNat ≤ 30000000 := by
    rcases Nat.lt_or_ge 30000000 (isq r.toNat) with hlt | hge
    · have := Nat.mul_le_mul (show 30000000 ≤ isq r.toNat by omega) (show 30000000 ≤ isq r.toNat by omega)
      omega
    · exact hge
  rw [e1, e2]
  omega
theorem span_half {a b : Int} (h0 : 0 ≤ a) (h1 : a ≤ b) (h2 : b ≤ 1000000000) : spanV 2 (a * 1) [b * 1] = (rnd false a 2, rnd true b 2, 0) := by
  have e1 : minL (a * 1) [b * 1] = a := by simp only [minL]; omega
  have e2 : maxL (a * 1) [b * 1] = b := by simp only [maxL]; omega
  have d : rnd false a 2 = a / 2 := rfl
  have u : rnd true b 2 = -((-b) / 2) := rfl
  unfold spanV
  rw [e1, e2]
  have f1 : fits (rnd false a 2) = true := by rw [d]; unfold fits M62; simp; omega
  have f2 : fits (rnd true b 2) = true := by rw [u]; unfold fits M62; simp; omega
  rw [f1, f2]
  rfl
theorem span_eight {a b : Int} (h0 : 0 ≤ a) (h1 : a ≤ b) (h2 : b ≤ 1000000000) : spanV 1 (a * 8) [b * 8] = (a * 8, b * 8, 0) := by
  have e1 : minL (a * 8) [b * 8] = a * 8 := by simp only [minL]; omega
  have e2 : maxL (a * 8) [b * 8] = b * 8 := by simp only [maxL]; omega
  have d : rnd false (a * 8) 1 = a * 8 := by change (a * 8) / 1 = _; omega
  have u : rnd true (b * 8) 1 = b * 8 := by change -((-(b * 8)) / 1) = _; omega
  unfold spanV
  rw [e1, e2, d, u]
  have f1 : fits (a * 8) = true := by unfold fits M62; simp; omega
  have f2 : fits (b * 8) = true := by unfold fits M62; simp; omega
  rw [f1, f2]
  rfl
end Go.Proofs.YtamjhpdgclbfgaaGreat

namespace Go.Proofs.YtamjhpdgclbfgaaGreat
open Go.RowKit Go.Kq

set_option maxHeartbeats 2000000 in
theorem power_parts (n s : Int) (w : World) (h0 : 0 ≤ n) (h1 : n < 4294967296) (hs : n < 2 → s = n)
    (M1 : Hid (∀ w0, Calls Tryz.prog 66 #[.int .u64 1, .int .u64 n] w0 fun e w' => e = .returned (.tuple #[.int .u64 0, .int .u64 n]) ∧ w' = w0))
    (M2 : Hid (∀ w0, Calls Tryz.prog 66 #[.int .u64 n, .int .u64 n] w0 fun e w' => e = .returned (.tuple #[.int .u64 0, .int .u64 s]) ∧ w' = w0)) :
    Calls Tryz.prog 43 #[.int .u64 n, .int .i64 2] w fun e w' => e = .returned (.tuple #[.int .u64 (if s ≤ 4611686018427387904 then s else 0), .bool (decide (s ≤ 4611686018427387904))]) ∧ w' = w := by
  by_cases hn : n < 2
  · have hs1 := hs hn
    subst hs1
    have hle : s ≤ 4611686018427387904 := by omega
    rw [if_pos hle, decide_eq_true hle]
    clear M1 M2 hs
    go_enter Tryz.func43, Tryz.ntmps43
    go_wp2_with fail
    exact bodyPost_ret (v := .tuple #[.int .u64 s, .bool true]) (by simp [results, Tryz.results43, go_sem]) rfl ⟨rfl, rfl⟩
  · clear hs
    have hn2 : 2 ≤ n := by omega
    go_enter Tryz.func43, Tryz.ntmps43
    go_wp2_with fail
    go_loop [6, 17] (fun o i => (o = .int .u64 1 ∧ i = .int .i64 0) ∨ (o = .int .u64 n ∧ i = .int .i64 1) ∨ (o = .int .u64 s ∧ i = .int .i64 2 ∧ s ≤ 4611686018427387904)) (fun _ i => 2 - (intOf i).toNat)
    case atStart => exact .inl ⟨rfl, rfl⟩
    case round =>
      rcases hrel with ⟨rfl, rfl⟩ | ⟨rfl, rfl⟩ | ⟨rfl, rfl, hle⟩
      · have hnM : n ≤ 4611686018427387904 := by omega
        go_wp2_with fail
        refine (M1.out _).mono ?_
        rintro e w1 ⟨rfl, hw⟩
        subst hw
        go_wp2_with fail
        go_round
        case rel => exact .inr (.inl ⟨rfl, rfl⟩)
        case measure => simp [intOf]
      · by_cases hle : s ≤ 4611686018427387904
        · go_wp2_with fail
          refine (M2.out _).mono ?_
          rintro e w1 ⟨rfl, hw⟩
          subst hw
          go_wp2_with fail
          go_round
          case rel => exact .inr (.inr ⟨rfl, rfl, hle⟩)
          case measure => simp [intOf]
        · have hd : decide (s ≤ 4611686018427387904) = false := decide_eq_false hle
          have hr : (if s ≤ 4611686018427387904 then s else 0) = 0 := if_neg hle
          have HD := Lib.hid (And.intro hd hr)
          clear hd hr
          go_wp2_with fail
          refine (M2.out _).mono ?_
          rintro e w1 ⟨rfl, hw⟩
          subst hw
          go_wp2_with fail
          exact bodyPost_ret (v := .tuple #[.int .u64 0, .bool false]) (by simp [results, Tryz.results43, go_sem]) rfl ⟨by first | rw [HD.out.1, HD.out.2] | rfl, rfl⟩
      · have hd : decide (s ≤ 4611686018427387904) = true := decide_eq_true hle
        have hr : (if s ≤ 4611686018427387904 then s else 0) = s := if_pos hle
        have HD := Lib.hid (And.intro hd hr)
        clear hd hr
        go_wp2_with fail
        exact bodyPost_ret (v := .tuple #[.int .u64 s, .bool true]) (by simp [results, Tryz.results43, go_sem]) rfl ⟨by first | rw [HD.out.1, HD.out.2] | rfl, rfl⟩
/-- power at k = 2, of less than 2^32. -/
theorem power_any (n : Nat) (w : World) (hn : n < 4294967296) :
    Calls Tryz.prog 43 #[.int .u64 (n : Nat), .int .i64 2] w fun e w' => e = .returned (.tuple #[.int .u64 (if ((n * n : Nat) : Int) ≤ 4611686018427387904 then ((n * n : Nat) : Int) else 0), .bool (decide (((n * n : Nat) : Int) ≤ 4611686018427387904))]) ∧ w' = w := by
  have hm : n * n < 18446744073709551616 := by
    have h := Nat.mul_le_mul (show n ≤ 4294967295 by omega) (show n ≤ 4294967295 by omega)
    omega
  have M1 := Lib.hid (fun w0 => Any.bits_Mul64 mul64 1 n (by omega) (by omega) w0)
  have M2 := Lib.hid (fun w0 => Any.bits_Mul64 mul64 n n (by omega) (by omega) w0)
  rw [Nat.one_mul, Nat.div_eq_of_lt (show n < 18446744073709551616 by omega), Nat.mod_eq_of_lt (show n < 18446744073709551616 by omega)] at M1
  rw [Nat.div_eq_of_lt hm, Nat.mod_eq_of_lt hm] at M2
  have hs : (n : Int) < 2 → ((n * n : Nat) : Int) = (n : Int) := by
    intro h
    have : n = 0 ∨ n = 1 := by omega
    rcases this with rfl | rfl <;> rfl
  exact power_parts n (n * n : Nat) w (by omega) (by omega) hs M1 M2
end Go.Proofs.YtamjhpdgclbfgaaGreat

namespace Go.Proofs.YtamjhpdgclbfgaaGreat
open Go.RowKit Go.Kq

set_option maxHeartbeats 2000000 in
theorem root_any (n : Nat) (w : World) (hn : n ≤ 4611686018427387904) :
    Calls Tryz.prog 42 #[.int .u64 (n : Nat), .int .i64 2] w fun e w' => e = .returned (.int .u64 ((isq n : Nat) : Int)) ∧ w' = w := by
  have hw1 : IntKind.u64.wrap ((n : Int) + 1) = ((n + 1 : Nat) : Int) := by rw [IntKind.wrap_u64]; omega
  obtain ⟨h0, hh0⟩ : ∃ h0, (if n + 1 ≤ 4294967296 then n + 1 else 4294967296) = h0 := ⟨_, rfl⟩
  have hh1 : 0 < h0 := by rw [← hh0]; split <;> omega
  have hh2 : h0 ≤ 4294967296 := by rw [← hh0]; split <;> omega
  have hh3 : n < h0 * h0 := by
    rw [← hh0]
    split
    · exact Nat.lt_of_lt_of_le (Nat.lt_succ_self n) (Nat.le_mul_of_pos_left _ (by omega))
    · omega
  have hmin : min ((n + 1 : Nat) : Int) 4294967296 = ((h0 : Nat) : Int) := by rw [← hh0]; split <;> omega
  have HH := Lib.hid (And.intro hh1 (And.intro hh2 hh3))
  have HM := Lib.hid hmin
  clear hh0 hh1 hh2 hh3 hmin
  go_enter Tryz.func42, Tryz.ntmps42
  go_wp2_with fail
  go_loop [5, 6] (fun lo hi => ∃ a b : Nat, lo = .int .u64 (a : Nat) ∧ hi = .int .u64 (b : Nat) ∧ a < b ∧ b ≤ 4294967296 ∧ a * a ≤ n ∧ n < b * b) (fun lo hi => (intOf hi - intOf lo).toNat)
  case atStart => exact ⟨0, h0, rfl, by rw [← HM.out, Int.natCast_add]; rfl, HH.out.1, HH.out.2.1, by omega, HH.out.2.2⟩
  case round =>
    obtain ⟨a, b, rfl, rfl, h1, h2, h3, h4⟩ := hrel
    clear HM HH
    obtain ⟨d, hd⟩ : ∃ d, b - a = d := ⟨_, rfl⟩
    obtain ⟨e, he⟩ : ∃ e, d / 2 = e := ⟨_, rfl⟩
    obtain ⟨m, hm⟩ : ∃ m, a + e = m := ⟨_, rfl⟩
    have s1 : (b : Int) - (a : Int) = (d : Int) := by omega
    have s2 : (d : Int) / 2 = (e : Int) := by omega
    have s3 : (a : Int) + (e : Int) = (m : Int) := by omega
    have w1 : IntKind.u64.wrap (d : Int) = (d : Int) := by rw [IntKind.wrap_u64]; omega
    have w2 : IntKind.u64.wrap (m : Int) = (m : Int) := by rw [IntKind.wrap_u64]; omega
    have w3 : IntKind.u64.wrap (e : Int) = (e : Int) := by rw [IntKind.wrap_u64]; omega
    by_cases hgt : (1 : Int) < (d : Int)
    · have hma : a < m := by omega
      have hmb : m < b := by omega
      have PW := fun w0 => power_any m w0 (by omega)
      by_cases hle : m * m ≤ n
      · have hc1 : ((m * m : Nat) : Int) ≤ 4611686018427387904 := by omega
        have hc2 : ((m * m : Nat) : Int) ≤ (n : Int) := by omega
        rw [if_pos hc1, decide_eq_true hc1] at PW
        obtain ⟨q, hq⟩ : ∃ q, m * m = q := ⟨_, rfl⟩
        rw [hq] at hc2 PW
        have P := Lib.hid PW
        have F := Lib.hid (And.intro hmb (And.intro h2 (And.intro hle (And.intro h4 hma))))
        clear PW hc1 hmb h1 h2 h3 h4 hle hq hd he hm hn
        go_wp2_with fail
        with_reducible refine (P.out _).mono ?_
        rintro e w3 ⟨rfl, hw⟩
        subst hw
        go_wp2_with fail
        go_round
        case rel => exact ⟨m, b, rfl, rfl, F.out.1, F.out.2.1, F.out.2.2.1, F.out.2.2.2.1⟩
        case measure => have := F.out; simp [intOf]; omega
      · by_cases hc1 : ((m * m : Nat) : Int) ≤ 4611686018427387904
        · have hc2 : ¬ ((m * m : Nat) : Int) ≤ (n : Int) := by omega
          rw [if_pos hc1, decide_eq_true hc1] at PW
          obtain ⟨q, hq⟩ : ∃ q, m * m = q := ⟨_, rfl⟩
          have F := Lib.hid (And.intro hma (And.intro (show m ≤ 4294967296 by omega) (And.intro h3 (And.intro (show n < m * m by omega) hmb))))
          rw [hq] at hc2 PW
          have P := Lib.hid PW
          clear PW hc1 hma hmb h1 h2 h3 h4 hle hq hd he hm hn
          go_wp2_with fail
          with_reducible refine (P.out _).mono ?_
          rintro e w3 ⟨rfl, hw⟩
          subst hw
          go_wp2_with fail
          go_round
          case rel => exact ⟨a, m, rfl, rfl, F.out.1, F.out.2.1, F.out.2.2.1, F.out.2.2.2.1⟩
          case measure => have := F.out; simp [intOf]; omega
        · rw [if_neg hc1, decide_eq_false hc1] at PW
          have F := Lib.hid (And.intro hma (And.intro (show m ≤ 4294967296 by omega) (And.intro h3 (And.intro (show n < m * m by omega) hmb))))
          have P := Lib.hid PW
          clear PW hc1 hma hmb h1 h2 h3 h4 hle hd he hm hn
          go_wp2_with fail
          with_reducible refine (P.out _).mono ?_
          rintro e w3 ⟨rfl, hw⟩
          subst hw
          go_wp2_with fail
          go_round
          case rel => exact ⟨a, m, rfl, rfl, F.out.1, F.out.2.1, F.out.2.2.1, F.out.2.2.2.1⟩
          case measure => have := F.out; simp [intOf]; omega
    · have hb1 : b = a + 1 := by omega
      have hr : a = isq n := isq_unique h3 (by rw [← hb1]; exact h4)
      have HR := Lib.hid hr
      clear hr h2 h3 h4
      go_wp2_with fail
      go_ret
      exact ⟨by rw [← HR.out]; rfl, rfl⟩
end Go.Proofs.YtamjhpdgclbfgaaGreat

namespace Go.Proofs.YtamjhpdgclbfgaaGreat
open Go.RowKit Go.Kq

set_option maxHeartbeats 2000000 in
theorem Root_ok (lo hi : Nat) (w : World) (h1 : lo ≤ hi) (h2 : hi ≤ 4611686018427387904) :
    Calls Tryz.prog 20 #[ivV lo hi, .int .i64 2] w fun e w' => e = .returned (ieV ((isq lo : Nat), (csq hi : Nat), 0)) ∧ Kp No w w' := by
  have hck : ckE [((lo : Int), (hi : Int))] = 0 := by
    unfold ckE
    have f1 : fits (lo : Int) = true := by unfold fits M62; simp; omega
    have f2 : fits (hi : Int) = true := by unfold fits M62; simp; omega
    rw [if_pos (by intro x hx; simp at hx; subst hx; exact ⟨f1, f2⟩), if_pos (by intro x hx; simp at hx; subst hx; simpa using h1)]
  have HCK := Lib.hid (fun g w0 hc => check_any [((lo : Int), (hi : Int))] g 0 1 1 w0 rfl (by omega) hc)
  rw [hck] at HCK
  have RA := Lib.hid (fun w0 => root_any lo w0 (by omega))
  have RB := Lib.hid (fun w0 => root_any hi w0 h2)
  obtain ⟨i1, i2⟩ := isq_spec hi
  obtain ⟨j1, j2⟩ := isq_spec lo
  have hrb : isq hi < 4294967296 := by
    rcases Nat.lt_or_ge (isq hi) 4294967296 with h | h
    · exact h
    · have := Nat.mul_le_mul h h
      omega
  have hra : isq lo < 4294967296 := Nat.lt_of_le_of_lt (isq_mono h1) hrb
  have PB := fun w0 => power_any (isq hi) w0 hrb
  have hc1 : ((isq hi * isq hi : Nat) : Int) ≤ 4611686018427387904 := by omega
  rw [if_pos hc1, decide_eq_true hc1] at PB
  have hcs : ((csq hi : Nat) : Int) = if ((isq hi * isq hi : Nat) : Int) < (hi : Int) then ((isq hi : Nat) : Int) + 1 else ((isq hi : Nat) : Int) := by
    unfold csq
    by_cases h : isq hi * isq hi < hi
    · rw [if_pos h, if_pos (by omega)]
      omega
    · rw [if_neg h, if_neg (by omega)]
  rw [hcs]
  generalize isq hi * isq hi = sq at *
  have hlo : (0 : Int) ≤ (lo : Int) := by omega
  have hhi : (0 : Int) ≤ (hi : Int) := by omega
  have hlo2 : (lo : Int) ≤ 4611686018427387904 := by omega
  have hhi2 : (hi : Int) ≤ 4611686018427387904 := by omega
  have ha : ((isq lo : Nat) : Int) < 4294967296 := by omega
  have hb : ((isq hi : Nat) : Int) < 4294967296 := by omega
  have ha0 : (0 : Int) ≤ ((isq lo : Nat) : Int) := by omega
  have hb0 : (0 : Int) ≤ ((isq hi : Nat) : Int) := by omega
  clear hck h1 h2 i1 i2 j1 j2 hra hrb hc1 hcs
  generalize ((isq lo : Nat) : Int) = a at *
  generalize ((isq hi : Nat) : Int) = b at *
  generalize ((sq : Nat) : Int) = s at *
  generalize ((lo : Nat) : Int) = x at *
  generalize ((hi : Nat) : Int) = y at *
  have PB := Lib.hid PB
  have wx : IntKind.u64.wrap x = x := by rw [IntKind.wrap_u64]; omega
  have wy : IntKind.u64.wrap y = y := by rw [IntKind.wrap_u64]; omega
  have wb1 : IntKind.u64.wrap (b + 1) = b + 1 := by rw [IntKind.wrap_u64]; omega
  have wa : IntKind.i64.wrap a = a := by rw [IntKind.wrap_i64]; omega
  have wb : IntKind.i64.wrap b = b := by rw [IntKind.wrap_i64]; omega
  have wb2 : IntKind.i64.wrap (b + 1) = b + 1 := by rw [IntKind.wrap_i64]; omega
  have hx0 : ¬ x < 0 := by omega
  clear hlo hlo2 hhi hhi2 ha hb ha0 hb0
  simp only [ieV, ivV]
  obtain ⟨t, ht⟩ : ∃ t, (if s < y then b + 1 else b) = t := ⟨_, rfl⟩
  rw [ht]
  by_cases hs : s < y
  · rw [if_pos hs] at ht
    subst ht
    go_enter Tryz.func20, Tryz.ntmps20
    go_wp2_with fail
    refine (HCK.out _ _ (ck1_cells _ _ _ _ (by go_simp) (by go_simp))).mono ?_
    rintro e w1 ⟨rfl, hk⟩
    obtain ⟨c0, c1, _, _⟩ := two_cells (hk.heap (((Kp.alloc No _ _).tr (Kp.alloc No _ _)).heap (at_new (n := w.heap.size) rfl) id) id)
    obtain ⟨r0, r1, z0, z1⟩ := two_cells (hk.heap ((Kp.alloc No _ _).heap (at_new (n := w.heap.size + 1) (by simp)) id) id)
    have KP := ((Kp.alloc No w _).tr ((Kp.alloc No _ _).tr (Kp.alloc No _ _))).tr hk
    go_wp2_with fail
    with_reducible refine (RB.out _).mono ?_
    rintro e w2 ⟨rfl, hw⟩
    subst hw
    go_wp2_with fail
    with_reducible refine (PB.out _).mono ?_
    rintro e w2 ⟨rfl, hw⟩
    subst hw
    go_wp2_with fail
    with_reducible refine (RA.out _).mono ?_
    rintro e w2 ⟨rfl, hw⟩
    subst hw
    go_wp2_with fail
    exact bodyPost_ret (v := .tuple #[.agg #[.int .i64 a, .int .i64 (b + 1)], .int .i64 0]) (by simp [results, Tryz.results20, go_sem, r0, r1]) rfl ⟨rfl, kp_set2 KP (by omega)⟩
  · rw [if_neg hs] at ht
    subst ht
    go_enter Tryz.func20, Tryz.ntmps20
    go_wp2_with fail
    refine (HCK.out _ _ (ck1_cells _ _ _ _ (by go_simp) (by go_simp))).mono ?_
    rintro e w1 ⟨rfl, hk⟩
    obtain ⟨c0, c1, _, _⟩ := two_cells (hk.heap (((Kp.alloc No _ _).tr (Kp.alloc No _ _)).heap (at_new (n := w.heap.size) rfl) id) id)
    obtain ⟨r0, r1, z0, z1⟩ := two_cells (hk.heap ((Kp.alloc No _ _).heap (at_new (n := w.heap.size + 1) (by simp)) id) id)
    have KP := ((Kp.alloc No w _).tr ((Kp.alloc No _ _).tr (Kp.alloc No _ _))).tr hk
    go_wp2_with fail
    with_reducible refine (RB.out _).mono ?_
    rintro e w2 ⟨rfl, hw⟩
    subst hw
    go_wp2_with fail
    with_reducible refine (PB.out _).mono ?_
    rintro e w2 ⟨rfl, hw⟩
    subst hw
    go_wp2_with fail
    with_reducible refine (RA.out _).mono ?_
    rintro e w2 ⟨rfl, hw⟩
    subst hw
    go_wp2_with fail
    exact bodyPost_ret (v := .tuple #[.agg #[.int .i64 a, .int .i64 b], .int .i64 0]) (by simp [results, Tryz.results20, go_sem, r0, r1]) rfl ⟨rfl, kp_set2 KP (by omega)⟩
end Go.Proofs.YtamjhpdgclbfgaaGreat
