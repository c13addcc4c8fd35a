/- Great numbers by limbs: bit, Size: walks. · Great numbers by limbs: plain laws for Divide. -/
import Derived.Test.YtamjhpdgclbfgaaXNtfM
namespace Go.Proofs.Ytamjhpdgclbfgaa
open Go.RowKit Go.Kq

theorem and_one {y r : Nat} (hy : y < 4294967296) : bits .and .u32 ((y : Int) / 2 ^ r) 1 = ((y / 2 ^ r % 2 : Nat) : Int) := by
  have e : (y : Int) / 2 ^ r = ((y / 2 ^ r : Nat) : Int) := by simp
  have hp : y / 2 ^ r < 4294967296 := Nat.lt_of_le_of_lt (Nat.div_le_self _ _) hy
  rw [e]
  generalize y / 2 ^ r = p at hp ⊢
  have h1 : (BitVec.ofInt 32 (p : Int)).toNat = p := by
    rw [BitVec.ofInt_natCast, BitVec.toNat_ofNat]
    exact Nat.mod_eq_of_lt (by omega)
  show IntKind.u32.wrap ((BitVec.ofInt 32 (p : Int) &&& BitVec.ofInt 32 1).toNat : Int) = _
  rw [BitVec.toNat_and, h1, show (BitVec.ofInt 32 1).toNat = 1 from rfl, Nat.and_one_is_mod, IntKind.wrap_u32]
  omega
set_option maxHeartbeats 1000000 in
set_option maxRecDepth 100000 in
theorem bit_any (A : Option Addr) (n ca i : Nat) (a : List Nat) (w : World) (ha : NatAt w A n a) (hn : n ≤ 10000) (hi : i < 32 * n) :
    Calls Try.prog 129 #[.slice A n ca, .int .i64 (i : Nat)] w fun e w' => e = .returned (.int .u32 ((limN a (i / 32) / 2 ^ (i % 32) % 2 : Nat) : Int)) ∧ w' = w := by
  have hal := ha.len
  obtain ⟨y, hy⟩ : ∃ y, a[i / 32]? = some y := ⟨_, List.getElem?_eq_getElem (by omega)⟩
  have hys := ha.small y (List.mem_of_getElem? hy)
  obtain ⟨b, o, rfl, hb, c0⟩ := ha.at_ _ y hy
  rw [limN_some hy]
  obtain ⟨q, hq⟩ : ∃ q, q = i / 32 := ⟨_, rfl⟩
  obtain ⟨r, hr⟩ : ∃ r, r = i % 32 := ⟨_, rfl⟩
  have t1 : (i : Int).tdiv 32 = (q : Int) := by rw [Int.tdiv_eq_ediv_of_nonneg (by omega)]; omega
  have t2 : (i : Int).tmod 32 = (r : Int) := by rw [Int.tmod_eq_emod_of_nonneg (by omega)]; omega
  have t3 : (i : Int) / 32 = (q : Int) := by omega
  have t4 : (i : Int) % 32 = (r : Int) := by omega
  have hqn : q < n := by omega
  have hr32 : r < 32 := by omega
  rw [← hq] at c0
  rw [← hr]
  clear hq hr hi hy ha
  go_enter Try.func129, Try.ntmps129
  go_wp2_with fail
  go_ret
  exact ⟨by rw [and_one (by unfold BB at hys; omega)]; rfl, rfl⟩
theorem top_lt {a : List Nat} {n y : Nat} (ha : ∀ u ∈ a, u < BB) (hn : a.length = n + 1) (hy : a[n]? = some y) : valN BB a < (y + 1) * 2 ^ (32 * n) := by
  have hBB : 0 < BB := by unfold BB; omega
  have h1 := valN_take BB a n y hy
  rw [List.take_of_length_le (by omega)] at h1
  have h2 := valN_lt hBB (a.take n) fun x hx => ha x (List.mem_of_mem_take hx)
  rw [List.length_take, Nat.min_eq_left (by omega)] at h2
  have h3 : 2 ^ (32 * n) = BB ^ n := by rw [Nat.pow_mul]; rfl
  rw [h3, Nat.add_mul, Nat.mul_comm y, h1]
  omega
theorem half_lt {v t s : Nat} (h : v < (t + 1) * 2 ^ s) : v < (t / 2 + 1) * 2 ^ (s + 1) := by
  rw [Nat.pow_succ, Nat.mul_comm (2 ^ s) 2, ← Nat.mul_assoc]
  exact Nat.lt_of_lt_of_le h (Nat.mul_le_mul_right _ (by omega))
set_option maxHeartbeats 1000000 in
set_option maxRecDepth 100000 in
theorem size_num (A : Option Addr) (n ca : Nat) (a : List Nat) (w : World) (ha : NatAt w A n a) (hn : n ≤ 10000) :
    Calls Try.prog 127 #[.slice A n ca] w fun e w' => ∃ s : Nat, e = .returned (.int .i64 (s : Nat)) ∧ valN BB a < 2 ^ s ∧ s ≤ 32 * n ∧ Kp No w w' := by
  have hal := ha.len
  rcases n with _ | n
  · obtain rfl : a = [] := List.length_eq_zero_iff.1 hal
    clear ha
    go_enter Try.func127, Try.ntmps127
    go_wp2_with fail
    go_ret
    exact ⟨0, rfl, by simp [valN], by omega, Kp.refl _ _⟩
  · obtain ⟨y, hy⟩ : ∃ y, a[n]? = some y := ⟨_, List.getElem?_eq_getElem (by omega)⟩
    have hys := ha.small y (List.mem_of_getElem? hy)
    obtain ⟨b, o, rfl, hb, c0⟩ := ha.at_ _ y hy
    have TL := Lib.hid (top_lt ha.small hal hy)
    have g0 : ((n + 1 : Nat) : Int) = (n : Int) + 1 := by omega
    have g1 : (((n : Int) + 1) == 0) = false := by rw [beq_eq_false_iff_ne]; omega
    have g2 : IntKind.i64.wrap (n : Int) = (n : Int) := by rw [IntKind.wrap_i64]; omega
    have g3 : IntKind.i64.wrap (32 * (n : Int)) = 32 * (n : Int) := by rw [IntKind.wrap_i64]; omega
    have g4 : (0 : Int) ≤ (n : Int) := by omega
    have g5 : (n : Int) < (n : Int) + 1 := by omega
    clear ha hy
    go_enter Try.func127, Try.ntmps127
    go_wp2_with fail
    go_quiet (fail)
    have KW := Lib.hid (Kp.drewN No w nq)
    generalize w.drewN nq = wq at *
    go_wp2_with fail
    have hyt : y < 2 ^ 32 := by unfold BB at hys; omega
    clear c0 hys
    go_loopw [3, 4] (fun s t wr => ∃ j t' : Nat, s = .int .i64 ((32 * n + j : Nat) : Int) ∧ t = .int .u32 (t' : Nat) ∧ j ≤ 32 ∧ t' * 2 ^ j ≤ y ∧ t' ≤ y ∧ valN BB a < (t' + 1) * 2 ^ (32 * n + j) ∧ Kp No w wr) (fun _ t _ => (intOf t).toNat)
    case atStart => exact ⟨0, y, by congr 1, rfl, by omega, by omega, by omega, TL.out, KW.out⟩
    case round =>
      obtain ⟨j, t, rfl, rfl, hj, hty, hty2, hv, hkp⟩ := hrel
      have HV := Lib.hid hv
      have KP := Lib.hid hkp
      have HTY := Lib.hid hty
      clear hv hkp hty
      by_cases hpos : 0 < t
      · have hj2 : j + 1 ≤ 32 := by
          rcases Nat.lt_or_ge j 32 with h | h
          · exact h
          · have g6 : 2 ^ 32 ≤ 2 ^ j := Nat.pow_le_pow_right (by omega) h
            have g7 : 1 * 2 ^ j ≤ t * 2 ^ j := Nat.mul_le_mul_right _ hpos
            have := HTY.out
            omega
        have d1 : (t : Int) / 2 = ((t / 2 : Nat) : Int) := by omega
        have d2 : (t : Int).tdiv 2 = ((t / 2 : Nat) : Int) := by rw [Int.tdiv_eq_ediv_of_nonneg (by omega)]; omega
        have d3 : IntKind.u32.wrap ((t / 2 : Nat) : Int) = ((t / 2 : Nat) : Int) := by rw [IntKind.wrap_u32]; omega
        have d4 : IntKind.i64.wrap (((32 * n + j : Nat) : Int) + 1) = ((32 * n + j : Nat) : Int) + 1 := by rw [IntKind.wrap_i64]; omega
        obtain ⟨S, hS⟩ : ∃ S : Int, ((32 * n + j : Nat) : Int) = S := ⟨_, rfl⟩
        rw [hS] at d4 ⊢
        have HS := Lib.hid hS
        clear hS
        obtain ⟨T2, hT2⟩ : ∃ T2 : Int, ((t / 2 : Nat) : Int) = T2 := ⟨_, rfl⟩
        rw [hT2] at d1 d2 d3
        have HT2 := Lib.hid hT2
        clear hT2
        go_wp2_with fail
        go_round
        case rel =>
          refine ⟨j + 1, t / 2, ?_, by rw [HT2.out], hj2, ?_, by omega, half_lt HV.out, KP.out⟩
          · congr 1
            have := HS.out
            omega
          · have := HTY.out
            rw [Nat.pow_succ, Nat.mul_comm (2 ^ j) 2, ← Nat.mul_assoc]
            exact Nat.le_trans (Nat.mul_le_mul_right _ (by omega)) this
        case measure =>
          have := HT2.out
          simp [intOf] <;> omega
      · obtain rfl : t = 0 := by omega
        go_wp2_with fail
        go_ret
        exact ⟨32 * n + j, rfl, by have := HV.out; simpa using this, by omega, KP.out⟩
end Go.Proofs.Ytamjhpdgclbfgaa

namespace Go.Proofs.Ytamjhpdgclbfgaa
open Go.RowKit Go.Kq

theorem IsNat.tight {w : World} {v : Value} {N k k' : Nat} (h : IsNat w v N k) (hN : N < BB ^ k') : IsNat w v N k' := by
  obtain ⟨A, n, c, l, h1, h2, h3, h4, h5, h6⟩ := h
  refine ⟨A, n, c, l, h1, h2, h3, ?_, h5, h6⟩
  rcases n with _ | j
  · omega
  · have := Nat.lt_of_le_of_lt (h6 j rfl) hN
    have := (Nat.pow_lt_pow_iff_right (show 1 < BB by unfold BB; omega)).1 this
    omega
theorem IsNat.pos {w : World} {v : Value} {N k : Nat} (h : IsNat w v N k) : ∃ A n c l, v = .slice A n c ∧ NatAt w A n l ∧ valN BB l = N ∧ n ≤ k ∧ (0 < n ↔ 0 < N) := by
  obtain ⟨A, n, c, l, h1, h2, h3, h4, h5, h6⟩ := h
  refine ⟨A, n, c, l, h1, h2, h3, h4, ?_⟩
  rcases n with _ | j
  · have : l = [] := List.length_eq_zero_iff.1 h2.len
    subst this
    simp [valN] at h3
    omega
  · have := h6 j rfl
    have h7 : 0 < BB ^ j := Nat.pow_pos (by unfold BB; omega)
    omega
/-- A limb is a digit. -/
theorem limN_digit {l : List Nat} (hs : ∀ x ∈ l, x < BB) (q : Nat) : limN l q = valN BB l / BB ^ q % BB := by
  have hBB : 0 < BB := by unfold BB; omega
  have hp : 0 < BB ^ q := Nat.pow_pos hBB
  have h1 := valN_takeL BB l q
  have h2 : valN BB (l.take q) < BB ^ q ∨ l.length ≤ q := by
    rcases Nat.lt_or_ge q l.length with h | h
    · left
      have := valN_lt hBB (l.take q) fun x hx => hs x (List.mem_of_mem_take hx)
      rwa [List.length_take, Nat.min_eq_left (by omega)] at this
    · exact Or.inr h
  rcases h2 with h2 | h2
  · have h3 := valN_append BB (l.take (q + 1)) (l.drop (q + 1))
    rw [List.take_append_drop, h1] at h3
    rcases Nat.lt_or_ge q l.length with h | h
    · rw [List.length_take, Nat.min_eq_left (by omega), Nat.pow_succ] at h3
      have h4 : valN BB l = valN BB (l.take q) + BB ^ q * (limN l q + BB * valN BB (l.drop (q + 1))) := by
        rw [h3, Nat.mul_add, Nat.mul_assoc]
        omega
      rw [h4, Nat.add_mul_div_left _ _ hp, Nat.div_eq_of_lt h2, Nat.zero_add, Nat.add_mul_mod_self_left, Nat.mod_eq_of_lt (limN_lt hBB hs q)]
    · rw [List.take_of_length_le h] at h2
      rw [limN_none h, Nat.div_eq_of_lt h2, Nat.zero_mod]
  · have g := valN_lt hBB l hs
    have g2 : BB ^ l.length ≤ BB ^ q := Nat.pow_le_pow_right hBB h2
    rw [limN_none h2, Nat.div_eq_of_lt (Nat.lt_of_lt_of_le g g2), Nat.zero_mod]
theorem BB_pow (q : Nat) : BB ^ q = 2 ^ (32 * q) := by
  rw [Nat.pow_mul]
  rfl
theorem i_split (i : Nat) : 2 ^ i = BB ^ (i / 32) * 2 ^ (i % 32) := by
  rw [BB_pow, ← Nat.pow_add, Nat.div_add_mod]
/-- A bit of a number. -/
theorem bit_val (X i : Nat) : X / BB ^ (i / 32) % BB / 2 ^ (i % 32) % 2 = X / 2 ^ i % 2 := by
  have hr : i % 32 < 32 := Nat.mod_lt _ (by omega)
  rw [i_split i, ← Nat.div_div_eq_div_mul]
  generalize X / BB ^ (i / 32) = Y
  generalize i % 32 = r at hr ⊢
  have e : BB = 2 ^ r * 2 ^ (32 - r) := by
    rw [← Nat.pow_add, show r + (32 - r) = 32 by omega]
    rfl
  rw [e, Nat.mod_mul_right_div_self]
  have h2 : 2 ∣ 2 ^ (32 - r) := ⟨2 ^ (31 - r), by rw [Nat.mul_comm, ← Nat.pow_succ]; congr 1; omega⟩
  exact Nat.mod_mod_of_dvd _ h2
/-- A bit that is set: the number has no bit at or below it. -/
theorem or_set {Q i : Nat} (hQ : Q % 2 ^ (i + 1) = 0) : (Q / BB ^ (i / 32) % BB) ||| 2 ^ (i % 32) = Q / BB ^ (i / 32) % BB + 2 ^ (i % 32) ∧ Q / BB ^ (i / 32) % BB + 2 ^ (i % 32) < BB := by
  have hr : i % 32 < 32 := Nat.mod_lt _ (by omega)
  obtain ⟨c, rfl⟩ : ∃ c, Q = 2 ^ (i + 1) * c := ⟨_, (Nat.mul_div_cancel' (Nat.dvd_of_mod_eq_zero hQ)).symm⟩
  have e0 : 2 ^ (i + 1) * c = BB ^ (i / 32) * (2 ^ (i % 32 + 1) * c) := by
    rw [Nat.pow_succ, i_split i, Nat.pow_succ]
    simp only [Nat.mul_assoc]
  rw [e0, Nat.mul_div_cancel_left _ (Nat.pow_pos (show 0 < BB by unfold BB; omega))]
  generalize i % 32 = r at hr ⊢
  have e : BB = 2 ^ (r + 1) * 2 ^ (31 - r) := by
    rw [← Nat.pow_add, show r + 1 + (31 - r) = 32 by omega]
    rfl
  rw [e, Nat.mul_mod_mul_left, Nat.mul_comm]
  have hlt : 2 ^ r < 2 ^ (r + 1) := Nat.pow_lt_pow_right (by omega) (by omega)
  have hd : c % 2 ^ (31 - r) < 2 ^ (31 - r) := Nat.mod_lt _ (Nat.two_pow_pos _)
  generalize c % 2 ^ (31 - r) = d at hd ⊢
  refine ⟨or_sum hlt, ?_⟩
  have h1 : (d + 1) * 2 ^ (r + 1) ≤ 2 ^ (31 - r) * 2 ^ (r + 1) := Nat.mul_le_mul_right _ hd
  rw [Nat.add_mul, Nat.one_mul] at h1
  rw [Nat.mul_comm (2 ^ (r + 1)) (2 ^ (31 - r))]
  omega
/-- The round of the division. -/
theorem div_round (X y s : Nat) (hy : 0 < y) :
    X / 2 ^ s % y = (2 * (X / 2 ^ (s + 1) % y) + X / 2 ^ s % 2) % y ∧ X / 2 ^ s / y = 2 * (X / 2 ^ (s + 1) / y) + (2 * (X / 2 ^ (s + 1) % y) + X / 2 ^ s % 2) / y := by
  rw [Nat.pow_succ, ← Nat.div_div_eq_div_mul]
  generalize X / 2 ^ s = Z
  have h1 := Nat.div_add_mod Z 2
  have h2 := Nat.div_add_mod (Z / 2) y
  generalize hR : 2 * (Z / 2 % y) + Z % 2 = R at *
  have e : Z = y * (2 * (Z / 2 / y)) + R := by
    rw [Nat.mul_left_comm]
    omega
  constructor
  · conv => lhs; rw [e]
    rw [Nat.mul_add_mod]
  · conv => lhs; rw [e]
    rw [Nat.mul_add_div hy]
end Go.Proofs.Ytamjhpdgclbfgaa
