/- Chapter 09: slices.IndexFunc and ContainsFunc at the chapter's elements. Printed by gen_cf.py. · Chapter 09: wrong, a job's check, and whether a cut is larger than the plate. · A quotient of two words by one word, digit by digit: plain. No program in sight. · How many bits a number has. No program in sight. -/
import Derived.Lib.Mul64
import Derived.Lib.BitFns
import Derived.Test.YtamjhpdgclbfgaaXLibHvM
import Derived.Test.YtamjhpdgclbfgaaXSrtIM
namespace Go.Proofs.Ytamjhpdgclbfgaa
open Go.RowKit Go.Kq

set_option maxHeartbeats 1000000 in
theorem index_wrong (A : Option Addr) (n cap : Nat) (vs : List Ct) (p : Ct → Bool) (w : World) (h : Rd Ct.cells 2 w A n vs) (hn : n ≤ 100000000) (hf : ∀ v w', Kp No w w' → Calls Try.prog 54 #[Ct.val v] w' fun e w'' => e = .returned (.bool (p v)) ∧ Kp No w' w'') :
    Calls Try.prog 84 #[.slice A n cap, .func (.func 54) #[] #[]] w fun e w' => e = .returned (.int .i64 (ixI p vs)) ∧ Kp No w w' := by
  have HF := Lib.hid hf
  clear hf
  go_enter Try.func84, Try.ntmps84
  go_wp2_with fail
  go_loopw [8] (fun i wr => ∃ k : Nat, k ≤ n ∧ i = .int .i64 k ∧ (vs.take k).any p = false ∧ Kp No w wr) (fun i _ => n - (intOf i).toNat)
  case atStart => exact ⟨0, by omega, rfl, by simp, Kp.refl _ _⟩
  case round =>
    obtain ⟨k, hk, rfl, hno, hkp⟩ := hrel
    by_cases hlt : k < n
    · obtain ⟨v, hv⟩ : ∃ v, vs[k]? = some v := ⟨_, List.getElem?_eq_getElem (by rw [h.1]; exact hlt)⟩
      obtain ⟨b, o, rfl, hb, hc⟩ := h.2 k v hv
      have c0 := hkp.cell (hc 0 _ rfl) (fun h => h)
      have c1 := hkp.cell (hc 1 _ rfl) (fun h => h)
      simp only [Nat.add_zero] at c0
      have Ht := Lib.hid (any_take_succ p vs k v hv)
      have Hno := Lib.hid hno
      have Hv := Lib.hid hv
      have HC := Lib.hid (HF.out v _ hkp)
      have HK := Lib.hid hkp
      clear hno hv hc hkp
      cases hbad : p v
      · rw [hbad] at HC
        have HB := Lib.hid hbad
        clear hbad
        simp only [Ct.val] at HC
        go_wp2_with (go_at_call 54; refine HC.out.mono ?_; rintro e w' ⟨rfl, hkp'⟩)
        go_roundw
        case rel => exact ⟨k + 1, by omega, by go_num, by rw [Ht.out, Hno.out, HB.out]; rfl, HK.out.tr hkp'⟩
        case measure => simp [intOf]; omega
      · rw [hbad] at HC
        have HB := Lib.hid hbad
        clear hbad
        simp only [Ct.val] at HC
        go_wp2_with (go_at_call 54; refine HC.out.mono ?_; rintro e w' ⟨rfl, hkp'⟩)
        go_ret
        exact ⟨by rw [ixI_at Hno.out Hv.out HB.out]; rfl, HK.out.tr hkp'⟩
    · have HK := Lib.hid hkp
      have Hno := Lib.hid hno
      clear hkp hno
      go_wp2
      go_ret
      refine ⟨?_, HK.out⟩
      have hno := Hno.out
      rw [List.take_of_length_le (by rw [h.1]; omega)] at hno
      rw [ixI_none hno]
      rfl
set_option maxHeartbeats 1000000 in
theorem contains_wrong (A : Option Addr) (n cap : Nat) (vs : List Ct) (p : Ct → Bool) (w : World) (h : Rd Ct.cells 2 w A n vs) (hn : n ≤ 100000000) (hf : ∀ v w', Kp No w w' → Calls Try.prog 54 #[Ct.val v] w' fun e w'' => e = .returned (.bool (p v)) ∧ Kp No w' w'') :
    Calls Try.prog 55 #[.slice A n cap, .func (.func 54) #[] #[]] w fun e w' => e = .returned (.bool (vs.any p)) ∧ Kp No w w' := by
  have HI := Lib.hid (index_wrong A n cap vs p w h hn hf)
  have HA := Lib.hid (ixI_any p vs)
  clear hf
  generalize ixI p vs = i at HI HA
  go_enter Try.func55, Try.ntmps55
  go_wp2_with (go_at_call 84; refine HI.out.mono ?_; rintro e w' ⟨rfl, hkp⟩)
  go_ret
  exact ⟨by first | rfl | exact ret_bool HA.out, hkp⟩
set_option maxHeartbeats 1000000 in
theorem index_large {cv : Value} (A : Option Addr) (n cap : Nat) (vs : List Ct) (p : Ct → Bool) (w : World) (h : Rd Ct.cells 2 w A n vs) (hn : n ≤ 100000000) (hf : ∀ v w', Kp No w w' → Calls Try.prog 56 #[Ct.val v, cv] w' fun e w'' => e = .returned (.bool (p v)) ∧ Kp No w' w'') :
    Calls Try.prog 84 #[.slice A n cap, .func (.func 56) #[] #[cv]] w fun e w' => e = .returned (.int .i64 (ixI p vs)) ∧ Kp No w w' := by
  have HF := Lib.hid hf
  clear hf
  go_enter Try.func84, Try.ntmps84
  go_wp2_with fail
  go_loopw [8] (fun i wr => ∃ k : Nat, k ≤ n ∧ i = .int .i64 k ∧ (vs.take k).any p = false ∧ Kp No w wr) (fun i _ => n - (intOf i).toNat)
  case atStart => exact ⟨0, by omega, rfl, by simp, Kp.refl _ _⟩
  case round =>
    obtain ⟨k, hk, rfl, hno, hkp⟩ := hrel
    by_cases hlt : k < n
    · obtain ⟨v, hv⟩ : ∃ v, vs[k]? = some v := ⟨_, List.getElem?_eq_getElem (by rw [h.1]; exact hlt)⟩
      obtain ⟨b, o, rfl, hb, hc⟩ := h.2 k v hv
      have c0 := hkp.cell (hc 0 _ rfl) (fun h => h)
      have c1 := hkp.cell (hc 1 _ rfl) (fun h => h)
      simp only [Nat.add_zero] at c0
      have Ht := Lib.hid (any_take_succ p vs k v hv)
      have Hno := Lib.hid hno
      have Hv := Lib.hid hv
      have HC := Lib.hid (HF.out v _ hkp)
      have HK := Lib.hid hkp
      clear hno hv hc hkp
      cases hbad : p v
      · rw [hbad] at HC
        have HB := Lib.hid hbad
        clear hbad
        simp only [Ct.val] at HC
        go_wp2_with (go_at_call 56; refine HC.out.mono ?_; rintro e w' ⟨rfl, hkp'⟩)
        go_roundw
        case rel => exact ⟨k + 1, by omega, by go_num, by rw [Ht.out, Hno.out, HB.out]; rfl, HK.out.tr hkp'⟩
        case measure => simp [intOf]; omega
      · rw [hbad] at HC
        have HB := Lib.hid hbad
        clear hbad
        simp only [Ct.val] at HC
        go_wp2_with (go_at_call 56; refine HC.out.mono ?_; rintro e w' ⟨rfl, hkp'⟩)
        go_ret
        exact ⟨by rw [ixI_at Hno.out Hv.out HB.out]; rfl, HK.out.tr hkp'⟩
    · have HK := Lib.hid hkp
      have Hno := Lib.hid hno
      clear hkp hno
      go_wp2
      go_ret
      refine ⟨?_, HK.out⟩
      have hno := Hno.out
      rw [List.take_of_length_le (by rw [h.1]; omega)] at hno
      rw [ixI_none hno]
      rfl
set_option maxHeartbeats 1000000 in
theorem contains_large {cv : Value} (A : Option Addr) (n cap : Nat) (vs : List Ct) (p : Ct → Bool) (w : World) (h : Rd Ct.cells 2 w A n vs) (hn : n ≤ 100000000) (hf : ∀ v w', Kp No w w' → Calls Try.prog 56 #[Ct.val v, cv] w' fun e w'' => e = .returned (.bool (p v)) ∧ Kp No w' w'') :
    Calls Try.prog 55 #[.slice A n cap, .func (.func 56) #[] #[cv]] w fun e w' => e = .returned (.bool (vs.any p)) ∧ Kp No w w' := by
  have HI := Lib.hid (index_large A n cap vs p w h hn hf)
  have HA := Lib.hid (ixI_any p vs)
  clear hf
  generalize ixI p vs = i at HI HA
  go_enter Try.func55, Try.ntmps55
  go_wp2_with (go_at_call 84; refine HI.out.mono ?_; rintro e w' ⟨rfl, hkp⟩)
  go_ret
  exact ⟨by first | rfl | exact ret_bool HA.out, hkp⟩
end Go.Proofs.Ytamjhpdgclbfgaa

namespace Go.Proofs.Ytamjhpdgclbfgaa
open Go.RowKit Go.Kq

set_option maxHeartbeats 2000000 in
theorem wrong_any (c : Ct) (w : World) : Calls Try.prog 54 #[c.val] w fun e w' => e = .returned (.bool (badC c)) ∧ Kp No w w' := by
  have H1 := Lib.hid (fun w0 => outside_any c.w 1 20000000 w0)
  have H2 := Lib.hid (fun w0 => outside_any c.h 1 20000000 w0)
  unfold badC
  generalize outB c.w 1 20000000 = q1 at *
  generalize outB c.h 1 20000000 = q2 at *
  unfold Ct.val
  have hk0 : Kp No w (w.alloc (.cells #[.int .i64 c.w, .int .i64 c.h] 35)) := Kp.alloc _ _ _
  go_enter Try.func54, Try.ntmps54
  cases q1
  · go_wp2_with fail
    with_reducible refine (H1.out _).mono ?_
    rintro e w1 ⟨rfl, hw⟩
    subst hw
    go_wp2_with fail
    with_reducible refine (H2.out _).mono ?_
    rintro e w1 ⟨rfl, hw⟩
    subst hw
    go_wp2_with fail
    go_ret
    exact ⟨rfl, hk0⟩
  · go_wp2_with fail
    with_reducible refine (H1.out _).mono ?_
    rintro e w1 ⟨rfl, hw⟩
    subst hw
    go_wp2_with fail
    go_ret
    exact ⟨rfl, hk0⟩
def jobV (P : Pt) (A : Option Addr) (n ca : Nat) : Value := .agg #[.int .i64 P.w, .int .i64 P.h, .int .i64 P.k, .slice A n ca]
def jbad (P : Pt) (l : List Ct) : Bool := badC ⟨P.w, P.h⟩ || outB P.k 0 50000 || l.any badC
def jchk (P : Pt) (l : List Ct) (m : Int) : Int := if m < (l.length : Int) then 3 else if jbad P l then 2 else 0
set_option maxHeartbeats 4000000 in
theorem jcheck_any (P : Pt) (A : Option Addr) (n ca : Nat) (l : List Ct) (m : Int) (w : World) (hx : RdC w A n l) (hn : n ≤ 100000000) :
    Calls Try.prog 26 #[jobV P A n ca, .int .i64 m] w fun e w' => e = .returned (.int .i64 (jchk P l m)) ∧ Kp No w w' := by
  have HX := Lib.hid hx
  have HL := Lib.hid hx.1
  have HW := Lib.hid (fun w0 => wrong_any ⟨P.w, P.h⟩ w0)
  have HO := Lib.hid (fun w0 => outside_any P.k 0 50000 w0)
  have HC := Lib.hid (fun w0 (k : Kp No w w0) => contains_wrong A n ca l badC w0 (hx.no k) hn (fun v w' _ => wrong_any v w'))
  clear hx
  unfold jobV jchk jbad
  rw [HL.out]
  simp only [Ct.val] at HW
  generalize badC ⟨P.w, P.h⟩ = q1 at *
  generalize outB P.k 0 50000 = q2 at *
  generalize l.any badC = q3 at *
  clear HX HL
  have hk0 : Kp No w (w.alloc (.cells #[.int .i64 P.w, .int .i64 P.h, .int .i64 P.k, .slice A n ca] 56)) := Kp.alloc _ _ _
  have hbx : (w.alloc (.cells #[.int .i64 P.w, .int .i64 P.h, .int .i64 P.k, .slice A n ca] 56)).heap[w.heap.size]? = some (.cells #[.int .i64 P.w, .int .i64 P.h, .int .i64 P.k, .slice A n ca] 56 (0, 0)) := heap_alloc_new _ _
  go_enter Try.func26, Try.ntmps26
  by_cases hm : m < (n : Int)
  · rw [if_pos hm]
    go_wp2_with fail
    go_ret
    exact ⟨rfl, hk0⟩
  rw [if_neg hm]
  go_wp2_with fail
  with_reducible refine (HW.out _).mono ?_
  rintro e w1 ⟨rfl, k1⟩
  have hbx1 := k1.heap hbx id
  obtain ⟨gb, hgb⟩ : ∃ gb, gb = w.heap.size := ⟨_, rfl⟩
  rw [← hgb] at hbx1 ⊢
  have b2 : w1.cell? ⟨gb, 2, none⟩ = some (.int .i64 P.k) := by rw [cell_of_row _ _ _ _ _ _ hbx1]; rfl
  have b3 : w1.cell? ⟨gb, 3, none⟩ = some (.slice A n ca) := by rw [cell_of_row _ _ _ _ _ _ hbx1]; rfl
  have HK := Lib.hid (hk0.tr k1)
  clear hbx hbx1 hgb k1 hk0
  cases q1
  rotate_left
  · go_wp2_with fail
    go_ret
    exact ⟨rfl, HK.out⟩
  go_wp2_with fail
  with_reducible refine (HO.out _).mono ?_
  rintro e w2 ⟨rfl, hw⟩
  subst hw
  cases q2
  rotate_left
  · go_wp2_with fail
    go_ret
    exact ⟨rfl, HK.out⟩
  go_wp2_with fail
  with_reducible refine (HC.out _ HK.out).mono ?_
  rintro e w2 ⟨rfl, k2⟩
  cases q3
  · go_wp2_with fail
    go_ret
    exact ⟨rfl, HK.out.tr k2⟩
  · go_wp2_with fail
    go_ret
    exact ⟨rfl, HK.out.tr k2⟩
end Go.Proofs.Ytamjhpdgclbfgaa

namespace Go.Kq

/-- The first guess of a digit is not too small, and too great by two at most. -/
theorem digit_first {B y a c u n : Nat} (hy : y = a * B + c) (hu : u < y) (hn : n < B) (ha : 0 < a) (h2 : B ≤ 2 * a) (hc : c < B) : (u * B + n) / y ≤ u / a ∧ u / a ≤ B + 1 := by
  constructor
  · rw [Nat.le_div_iff_mul_le ha]
    have h1 : (u * B + n) / y * y ≤ u * B + n := Nat.div_mul_le_self _ _
    have hB : 0 < B := by omega
    refine Nat.lt_succ_iff.1 (Nat.lt_of_mul_lt_mul_right (a := B) ?_)
    calc (u * B + n) / y * a * B = (u * B + n) / y * (a * B) := Nat.mul_assoc _ _ _
      _ ≤ (u * B + n) / y * y := Nat.mul_le_mul_left _ (by omega)
      _ ≤ u * B + n := h1
      _ < (u + 1) * B := by rw [Nat.add_mul]; omega
  · refine Nat.lt_succ_iff.1 ((Nat.div_lt_iff_lt_mul ha).2 ?_)
    have : (B + 1 + 1) * a = a * B + a + a := by rw [Nat.add_mul, Nat.add_mul, Nat.mul_comm B a]; omega
    show u < (B + 1 + 1) * a
    omega
theorem digit_small {B y u n : Nat} (hu : u < y) (hn : n < B) : (u * B + n) / y < B := by
  rw [Nat.div_lt_iff_lt_mul (by omega)]
  have : (u + 1) * B ≤ y * B := Nat.mul_le_mul_right _ hu
  rw [Nat.add_mul] at this
  rw [Nat.mul_comm B y]
  omega
/-- What q times y is, by the digits of y. -/
theorem digit_mul {B y a c u q r : Nat} (hy : y = a * B + c) (hq : q * a + r = u) : q * y + r * B = u * B + q * c := by
  rw [hy, ← hq, Nat.mul_add, Nat.add_mul, Nat.mul_assoc]
  omega
/-- The test says that the guess is too great. -/
theorem digit_great {B y a c u n q r : Nat} (hy : y = a * B + c) (hu : u < y) (hn : n < B) (hq : q * a + r = u) (ht : B ≤ q ∨ B * r + n < q * c) : (u * B + n) / y + 1 ≤ q := by
  rcases ht with h | h
  · have := digit_small hu hn
    omega
  · have := digit_mul hy hq
    refine (Nat.div_lt_iff_lt_mul (by omega)).2 ?_
    rw [Nat.mul_comm r B] at this
    omega
/-- The test says that it is not. -/
theorem digit_done {B y a c u n q r : Nat} (hy : y = a * B + c) (hu : u < y) (hq : q * a + r = u) (hQ : (u * B + n) / y ≤ q) (ht : q * c ≤ B * r + n) : q = (u * B + n) / y := by
  have h1 := digit_mul hy hq
  rw [Nat.mul_comm r B] at h1
  have : q ≤ (u * B + n) / y := (Nat.le_div_iff_mul_le (by omega)).2 (by omega)
  omega
/-- The loop is left when the rest is a digit too great. -/
theorem digit_break {B y a c u n q r : Nat} (hy : y = a * B + c) (hu : u < y) (hq : q * a + r = u) (hQ : (u * B + n) / y ≤ q) (hr : B ≤ r) (hqB : q ≤ B) (hc : c < B) : q = (u * B + n) / y := by
  refine digit_done hy hu hq hQ ?_
  calc q * c ≤ B * B := Nat.mul_le_mul hqB (by omega)
    _ ≤ B * r := Nat.mul_le_mul_left _ hr
    _ ≤ B * r + n := by omega

/-- The quotient out of both digits, of what has been shifted. -/
theorem two_digits {B N y u n1 n0 : Nat} (hy : 0 < y) (hN : N = (u * B + n1) * B + n0) :
    N / y = (u * B + n1) / y * B + ((u * B + n1) % y * B + n0) / y ∧ N % y = ((u * B + n1) % y * B + n0) % y := by
  have h1 := Nat.div_add_mod (u * B + n1) y
  have e : N = y * ((u * B + n1) / y * B) + ((u * B + n1) % y * B + n0) := by
    have h2 : N = (y * ((u * B + n1) / y) + (u * B + n1) % y) * B + n0 := by rw [h1]; exact hN
    rw [h2, Nat.add_mul, Nat.mul_assoc]
    omega
  constructor
  · rw [e, Nat.mul_add_div hy]
  · rw [e, Nat.mul_add_mod]
theorem shifted_div {N y s : Nat} : N * 2 ^ s / (y * 2 ^ s) = N / y := Nat.mul_div_mul_right _ _ (Nat.two_pow_pos s)
theorem shifted_mod {N y s : Nat} : N * 2 ^ s % (y * 2 ^ s) = N % y * 2 ^ s := Nat.mul_mod_mul_right _ _ _
theorem or_sum {a b s : Nat} (h : b < 2 ^ s) : (a * 2 ^ s) ||| b = a * 2 ^ s + b := by
  rw [Nat.mul_comm a, ← Nat.two_pow_add_eq_or_of_lt h]
/-- Both words, shifted. -/
theorem shift_words {hi lo s : Nat} (hs : s ≤ 64) : (hi * 2 ^ 64 + lo) * 2 ^ s = (hi * 2 ^ s + lo / 2 ^ (64 - s)) * 2 ^ 64 + lo * 2 ^ s % 2 ^ 64 := by
  have h1 : 2 ^ 64 = 2 ^ (64 - s) * 2 ^ s := by rw [← Nat.pow_add]; congr 1; omega
  have h2 : lo * 2 ^ s / 2 ^ 64 = lo / 2 ^ (64 - s) := by rw [h1]; exact Nat.mul_div_mul_right _ _ (Nat.two_pow_pos s)
  have h3 := Nat.div_add_mod (lo * 2 ^ s) (2 ^ 64)
  rw [h2] at h3
  rw [Nat.add_mul, Nat.add_mul, Nat.mul_assoc, Nat.mul_comm (2 ^ 64) (2 ^ s), ← Nat.mul_assoc, Nat.add_assoc, Nat.mul_comm (lo / 2 ^ (64 - s)) (2 ^ 64), h3]
end Go.Kq

namespace Go.Kq
theorem bitLen_bounds : ∀ x : Nat, x ≠ 0 → x < 2 ^ 64 → 1 ≤ Lib.bitLen x ∧ 2 ^ (Lib.bitLen x - 1) ≤ x ∧ x < 2 ^ Lib.bitLen x := by
  intro x
  induction x using Nat.strongRecOn with
  | _ x ih =>
    intro h0 h
    rw [Lib.bitLen_half x h0 h]
    by_cases h1 : x / 2 = 0
    · have hx : x = 1 := by omega
      subst hx
      have : Lib.bitLen (1 / 2) = 0 := by decide
      rw [this]
      decide
    · obtain ⟨i1, i2, i3⟩ := ih (x / 2) (by omega) h1 (by omega)
      refine ⟨by omega, ?_, ?_⟩
      · have e : 2 ^ (1 + Lib.bitLen (x / 2) - 1) = 2 * 2 ^ (Lib.bitLen (x / 2) - 1) := by
          rw [← Nat.pow_succ']
          congr 1
          omega
        omega
      · have e : 2 ^ (1 + Lib.bitLen (x / 2)) = 2 * 2 ^ Lib.bitLen (x / 2) := by
          rw [Nat.add_comm, Nat.pow_succ']
        omega
end Go.Kq
