/- Great numbers by limbs: bit, Size: walks. · Great numbers by limbs: plain laws for Divide. · Great numbers by limbs: Divide: the walk (under way). -/
import Derived.Test.YtakgcnjpmpcekaaGreatXNtfM
namespace Go.Proofs.YtakgcnjpmpcekaaGreat
open Go.RowKit Go.Kq

theorem and_one {y r : Nat} (hy : y < 4294967296) : bits .and .u32 ((y : Int) / 2 ^ r) 1 = ((y / 2 ^ r % 2 : Nat) : Int) := by
  have e : (y : Int) / 2 ^ r = ((y / 2 ^ r : Nat) : Int) := by simp
  have hp : y / 2 ^ r < 4294967296 := Nat.lt_of_le_of_lt (Nat.div_le_self _ _) hy
  rw [e]
  generalize y / 2 ^ r = p at hp ⊢
  have h1 : (BitVec.ofInt 32 (p : Int)).toNat = p := by
    rw [BitVec.ofInt_natCast, BitVec.toNat_ofNat]
    exact Nat.mod_eq_of_lt (by omega)
  show IntKind.u32.wrap ((BitVec.ofInt 32 (p : Int) &&& BitVec.ofInt 32 1).toNat : Int) = _
  rw [BitVec.toNat_and, h1, show (BitVec.ofInt 32 1).toNat = 1 from rfl, Nat.and_one_is_mod, IntKind.wrap_u32]
  omega
set_option maxHeartbeats 1000000 in
set_option maxRecDepth 100000 in
theorem bit_any (A : Option Addr) (n ca i : Nat) (a : List Nat) (w : World) (ha : NatAt w A n a) (hn : n ≤ 10000) (hi : i < 32 * n) :
    Calls Tryz.prog 96 #[.slice A n ca, .int .i64 (i : Nat)] w fun e w' => e = .returned (.int .u32 ((limN a (i / 32) / 2 ^ (i % 32) % 2 : Nat) : Int)) ∧ w' = w := by
  have hal := ha.len
  obtain ⟨y, hy⟩ : ∃ y, a[i / 32]? = some y := ⟨_, List.getElem?_eq_getElem (by omega)⟩
  have hys := ha.small y (List.mem_of_getElem? hy)
  obtain ⟨b, o, rfl, hb, c0⟩ := ha.at_ _ y hy
  rw [limN_some hy]
  obtain ⟨q, hq⟩ : ∃ q, q = i / 32 := ⟨_, rfl⟩
  obtain ⟨r, hr⟩ : ∃ r, r = i % 32 := ⟨_, rfl⟩
  have t1 : (i : Int).tdiv 32 = (q : Int) := by rw [Int.tdiv_eq_ediv_of_nonneg (by omega)]; omega
  have t2 : (i : Int).tmod 32 = (r : Int) := by rw [Int.tmod_eq_emod_of_nonneg (by omega)]; omega
  have t3 : (i : Int) / 32 = (q : Int) := by omega
  have t4 : (i : Int) % 32 = (r : Int) := by omega
  have hqn : q < n := by omega
  have hr32 : r < 32 := by omega
  rw [← hq] at c0
  rw [← hr]
  clear hq hr hi hy ha
  go_enter Tryz.func96, Tryz.ntmps96
  go_wp2_with fail
  go_ret
  exact ⟨by rw [and_one (by unfold BB at hys; omega)]; rfl, rfl⟩
theorem top_lt {a : List Nat} {n y : Nat} (ha : ∀ u ∈ a, u < BB) (hn : a.length = n + 1) (hy : a[n]? = some y) : valN BB a < (y + 1) * 2 ^ (32 * n) := by
  have hBB : 0 < BB := by unfold BB; omega
  have h1 := valN_take BB a n y hy
  rw [List.take_of_length_le (by omega)] at h1
  have h2 := valN_lt hBB (a.take n) fun x hx => ha x (List.mem_of_mem_take hx)
  rw [List.length_take, Nat.min_eq_left (by omega)] at h2
  have h3 : 2 ^ (32 * n) = BB ^ n := by rw [Nat.pow_mul]; rfl
  rw [h3, Nat.add_mul, Nat.mul_comm y, h1]
  omega
theorem half_lt {v t s : Nat} (h : v < (t + 1) * 2 ^ s) : v < (t / 2 + 1) * 2 ^ (s + 1) := by
  rw [Nat.pow_succ, Nat.mul_comm (2 ^ s) 2, ← Nat.mul_assoc]
  exact Nat.lt_of_lt_of_le h (Nat.mul_le_mul_right _ (by omega))
set_option maxHeartbeats 1000000 in
set_option maxRecDepth 100000 in
theorem size_num (A : Option Addr) (n ca : Nat) (a : List Nat) (w : World) (ha : NatAt w A n a) (hn : n ≤ 10000) :
    Calls Tryz.prog 94 #[.slice A n ca] w fun e w' => ∃ s : Nat, e = .returned (.int .i64 (s : Nat)) ∧ valN BB a < 2 ^ s ∧ s ≤ 32 * n ∧ Kp No w w' := by
  have hal := ha.len
  rcases n with _ | n
  · obtain rfl : a = [] := List.length_eq_zero_iff.1 hal
    clear ha
    go_enter Tryz.func94, Tryz.ntmps94
    go_wp2_with fail
    go_ret
    exact ⟨0, rfl, by simp [valN], by omega, Kp.refl _ _⟩
  · obtain ⟨y, hy⟩ : ∃ y, a[n]? = some y := ⟨_, List.getElem?_eq_getElem (by omega)⟩
    have hys := ha.small y (List.mem_of_getElem? hy)
    obtain ⟨b, o, rfl, hb, c0⟩ := ha.at_ _ y hy
    have TL := Lib.hid (top_lt ha.small hal hy)
    have g0 : ((n + 1 : Nat) : Int) = (n : Int) + 1 := by omega
    have g1 : (((n : Int) + 1) == 0) = false := by rw [beq_eq_false_iff_ne]; omega
    have g2 : IntKind.i64.wrap (n : Int) = (n : Int) := by rw [IntKind.wrap_i64]; omega
    have g3 : IntKind.i64.wrap (32 * (n : Int)) = 32 * (n : Int) := by rw [IntKind.wrap_i64]; omega
    have g4 : (0 : Int) ≤ (n : Int) := by omega
    have g5 : (n : Int) < (n : Int) + 1 := by omega
    clear ha hy
    go_enter Tryz.func94, Tryz.ntmps94
    go_wp2_with fail
    go_quiet (fail)
    have KW := Lib.hid (Kp.drewN No w nq)
    generalize w.drewN nq = wq at *
    go_wp2_with fail
    have hyt : y < 2 ^ 32 := by unfold BB at hys; omega
    clear c0 hys
    go_loopw [3, 4] (fun s t wr => ∃ j t' : Nat, s = .int .i64 ((32 * n + j : Nat) : Int) ∧ t = .int .u32 (t' : Nat) ∧ j ≤ 32 ∧ t' * 2 ^ j ≤ y ∧ t' ≤ y ∧ valN BB a < (t' + 1) * 2 ^ (32 * n + j) ∧ Kp No w wr) (fun _ t _ => (intOf t).toNat)
    case atStart => exact ⟨0, y, by congr 1, rfl, by omega, by omega, by omega, TL.out, KW.out⟩
    case round =>
      obtain ⟨j, t, rfl, rfl, hj, hty, hty2, hv, hkp⟩ := hrel
      have HV := Lib.hid hv
      have KP := Lib.hid hkp
      have HTY := Lib.hid hty
      clear hv hkp hty
      by_cases hpos : 0 < t
      · have hj2 : j + 1 ≤ 32 := by
          rcases Nat.lt_or_ge j 32 with h | h
          · exact h
          · have g6 : 2 ^ 32 ≤ 2 ^ j := Nat.pow_le_pow_right (by omega) h
            have g7 : 1 * 2 ^ j ≤ t * 2 ^ j := Nat.mul_le_mul_right _ hpos
            have := HTY.out
            omega
        have d1 : (t : Int) / 2 = ((t / 2 : Nat) : Int) := by omega
        have d2 : (t : Int).tdiv 2 = ((t / 2 : Nat) : Int) := by rw [Int.tdiv_eq_ediv_of_nonneg (by omega)]; omega
        have d3 : IntKind.u32.wrap ((t / 2 : Nat) : Int) = ((t / 2 : Nat) : Int) := by rw [IntKind.wrap_u32]; omega
        have d4 : IntKind.i64.wrap (((32 * n + j : Nat) : Int) + 1) = ((32 * n + j : Nat) : Int) + 1 := by rw [IntKind.wrap_i64]; omega
        obtain ⟨S, hS⟩ : ∃ S : Int, ((32 * n + j : Nat) : Int) = S := ⟨_, rfl⟩
        rw [hS] at d4 ⊢
        have HS := Lib.hid hS
        clear hS
        obtain ⟨T2, hT2⟩ : ∃ T2 : Int, ((t / 2 : Nat) : Int) = T2 := ⟨_, rfl⟩
        rw [hT2] at d1 d2 d3
        have HT2 := Lib.hid hT2
        clear hT2
        go_wp2_with fail
        go_round
        case rel =>
          refine ⟨j + 1, t / 2, ?_, by rw [HT2.out], hj2, ?_, by omega, half_lt HV.out, KP.out⟩
          · congr 1
            have := HS.out
            omega
          · have := HTY.out
            rw [Nat.pow_succ, Nat.mul_comm (2 ^ j) 2, ← Nat.mul_assoc]
            exact Nat.le_trans (Nat.mul_le_mul_right _ (by omega)) this
        case measure =>
          have := HT2.out
          simp [intOf] <;> omega
      · obtain rfl : t = 0 := by omega
        go_wp2_with fail
        go_ret
        exact ⟨32 * n + j, rfl, by have := HV.out; simpa using this, by omega, KP.out⟩
end Go.Proofs.YtakgcnjpmpcekaaGreat

namespace Go.Proofs.YtakgcnjpmpcekaaGreat
open Go.RowKit Go.Kq

theorem IsNat.tight {w : World} {v : Value} {N k k' : Nat} (h : IsNat w v N k) (hN : N < BB ^ k') : IsNat w v N k' := by
  obtain ⟨A, n, c, l, h1, h2, h3, h4, h5, h6⟩ := h
  refine ⟨A, n, c, l, h1, h2, h3, ?_, h5, h6⟩
  rcases n with _ | j
  · omega
  · have := Nat.lt_of_le_of_lt (h6 j rfl) hN
    have := (Nat.pow_lt_pow_iff_right (show 1 < BB by unfold BB; omega)).1 this
    omega
theorem IsNat.pos {w : World} {v : Value} {N k : Nat} (h : IsNat w v N k) : ∃ A n c l, v = .slice A n c ∧ NatAt w A n l ∧ valN BB l = N ∧ n ≤ k ∧ (0 < n ↔ 0 < N) := by
  obtain ⟨A, n, c, l, h1, h2, h3, h4, h5, h6⟩ := h
  refine ⟨A, n, c, l, h1, h2, h3, h4, ?_⟩
  rcases n with _ | j
  · have : l = [] := List.length_eq_zero_iff.1 h2.len
    subst this
    simp [valN] at h3
    omega
  · have := h6 j rfl
    have h7 : 0 < BB ^ j := Nat.pow_pos (by unfold BB; omega)
    omega
/-- A limb is a digit. -/
theorem limN_digit {l : List Nat} (hs : ∀ x ∈ l, x < BB) (q : Nat) : limN l q = valN BB l / BB ^ q % BB := by
  have hBB : 0 < BB := by unfold BB; omega
  have hp : 0 < BB ^ q := Nat.pow_pos hBB
  have h1 := valN_takeL BB l q
  have h2 : valN BB (l.take q) < BB ^ q ∨ l.length ≤ q := by
    rcases Nat.lt_or_ge q l.length with h | h
    · left
      have := valN_lt hBB (l.take q) fun x hx => hs x (List.mem_of_mem_take hx)
      rwa [List.length_take, Nat.min_eq_left (by omega)] at this
    · exact Or.inr h
  rcases h2 with h2 | h2
  · have h3 := valN_append BB (l.take (q + 1)) (l.drop (q + 1))
    rw [List.take_append_drop, h1] at h3
    rcases Nat.lt_or_ge q l.length with h | h
    · rw [List.length_take, Nat.min_eq_left (by omega), Nat.pow_succ] at h3
      have h4 : valN BB l = valN BB (l.take q) + BB ^ q * (limN l q + BB * valN BB (l.drop (q + 1))) := by
        rw [h3, Nat.mul_add, Nat.mul_assoc]
        omega
      rw [h4, Nat.add_mul_div_left _ _ hp, Nat.div_eq_of_lt h2, Nat.zero_add, Nat.add_mul_mod_self_left, Nat.mod_eq_of_lt (limN_lt hBB hs q)]
    · rw [List.take_of_length_le h] at h2
      rw [limN_none h, Nat.div_eq_of_lt h2, Nat.zero_mod]
  · have g := valN_lt hBB l hs
    have g2 : BB ^ l.length ≤ BB ^ q := Nat.pow_le_pow_right hBB h2
    rw [limN_none h2, Nat.div_eq_of_lt (Nat.lt_of_lt_of_le g g2), Nat.zero_mod]
theorem BB_pow (q : Nat) : BB ^ q = 2 ^ (32 * q) := by
  rw [Nat.pow_mul]
  rfl
theorem i_split (i : Nat) : 2 ^ i = BB ^ (i / 32) * 2 ^ (i % 32) := by
  rw [BB_pow, ← Nat.pow_add, Nat.div_add_mod]
/-- A bit of a number. -/
theorem bit_val (X i : Nat) : X / BB ^ (i / 32) % BB / 2 ^ (i % 32) % 2 = X / 2 ^ i % 2 := by
  have hr : i % 32 < 32 := Nat.mod_lt _ (by omega)
  rw [i_split i, ← Nat.div_div_eq_div_mul]
  generalize X / BB ^ (i / 32) = Y
  generalize i % 32 = r at hr ⊢
  have e : BB = 2 ^ r * 2 ^ (32 - r) := by
    rw [← Nat.pow_add, show r + (32 - r) = 32 by omega]
    rfl
  rw [e, Nat.mod_mul_right_div_self]
  have h2 : 2 ∣ 2 ^ (32 - r) := ⟨2 ^ (31 - r), by rw [Nat.mul_comm, ← Nat.pow_succ]; congr 1; omega⟩
  exact Nat.mod_mod_of_dvd _ h2
/-- A bit that is set: the number has no bit at or below it. -/
theorem or_set {Q i : Nat} (hQ : Q % 2 ^ (i + 1) = 0) : (Q / BB ^ (i / 32) % BB) ||| 2 ^ (i % 32) = Q / BB ^ (i / 32) % BB + 2 ^ (i % 32) ∧ Q / BB ^ (i / 32) % BB + 2 ^ (i % 32) < BB := by
  have hr : i % 32 < 32 := Nat.mod_lt _ (by omega)
  obtain ⟨c, rfl⟩ : ∃ c, Q = 2 ^ (i + 1) * c := ⟨_, (Nat.mul_div_cancel' (Nat.dvd_of_mod_eq_zero hQ)).symm⟩
  have e0 : 2 ^ (i + 1) * c = BB ^ (i / 32) * (2 ^ (i % 32 + 1) * c) := by
    rw [Nat.pow_succ, i_split i, Nat.pow_succ]
    simp only [Nat.mul_assoc]
  rw [e0, Nat.mul_div_cancel_left _ (Nat.pow_pos (show 0 < BB by unfold BB; omega))]
  generalize i % 32 = r at hr ⊢
  have e : BB = 2 ^ (r + 1) * 2 ^ (31 - r) := by
    rw [← Nat.pow_add, show r + 1 + (31 - r) = 32 by omega]
    rfl
  rw [e, Nat.mul_mod_mul_left, Nat.mul_comm]
  have hlt : 2 ^ r < 2 ^ (r + 1) := Nat.pow_lt_pow_right (by omega) (by omega)
  have hd : c % 2 ^ (31 - r) < 2 ^ (31 - r) := Nat.mod_lt _ (Nat.two_pow_pos _)
  generalize c % 2 ^ (31 - r) = d at hd ⊢
  refine ⟨or_sum hlt, ?_⟩
  have h1 : (d + 1) * 2 ^ (r + 1) ≤ 2 ^ (31 - r) * 2 ^ (r + 1) := Nat.mul_le_mul_right _ hd
  rw [Nat.add_mul, Nat.one_mul] at h1
  rw [Nat.mul_comm (2 ^ (r + 1)) (2 ^ (31 - r))]
  omega
/-- The round of the division. -/
theorem div_round (X y s : Nat) (hy : 0 < y) :
    X / 2 ^ s % y = (2 * (X / 2 ^ (s + 1) % y) + X / 2 ^ s % 2) % y ∧ X / 2 ^ s / y = 2 * (X / 2 ^ (s + 1) / y) + (2 * (X / 2 ^ (s + 1) % y) + X / 2 ^ s % 2) / y := by
  rw [Nat.pow_succ, ← Nat.div_div_eq_div_mul]
  generalize X / 2 ^ s = Z
  have h1 := Nat.div_add_mod Z 2
  have h2 := Nat.div_add_mod (Z / 2) y
  generalize hR : 2 * (Z / 2 % y) + Z % 2 = R at *
  have e : Z = y * (2 * (Z / 2 / y)) + R := by
    rw [Nat.mul_left_comm]
    omega
  constructor
  · conv => lhs; rw [e]
    rw [Nat.mul_add_mod]
  · conv => lhs; rw [e]
    rw [Nat.mul_add_div hy]
end Go.Proofs.YtakgcnjpmpcekaaGreat

namespace Go.Proofs.YtakgcnjpmpcekaaGreat
open Go.RowKit Go.Kq

theorem double_is (u : Value) (x k x0 : Nat) (w : World) (hu : IsNat w u x k) (hk : k ≤ 10000) (hx : x0 ≤ 1) :
    Calls Tryz.prog 95 #[u, .int .u32 (x0 : Nat)] w fun e w' => ∃ z, e = .returned z ∧ IsNew w.heap.size w' z (2 * x + x0) (k + 1) ∧ Kp No w w' := by
  obtain ⟨A, n, c, l, rfl, h1, rfl, h3, _⟩ := hu
  refine (double_num A n c x0 l w h1 (by omega) hx).mono ?_
  rintro e w' ⟨z, rfl, ⟨⟨a, n', c', l', e1, e2, e3, e4, e5⟩, hf⟩, hk⟩
  exact ⟨z, rfl, ⟨⟨a, n', c', l', e1, e2, e3, by omega, e5⟩, hf⟩, hk⟩
theorem order_is (u v : Value) (x y k m : Nat) (w : World) (hu : IsNat w u x k) (hv : IsNat w v y m) (hk : k ≤ 1000000) (hm : m ≤ 1000000) :
    Calls Tryz.prog 85 #[u, v] w fun e w' => e = .returned (.int .i64 (cmpN x y)) ∧ w = w' := by
  obtain ⟨A, n, c, l, rfl, h1, rfl, h3, _⟩ := hu
  obtain ⟨B, n2, c2, l2, rfl, g1, rfl, g3, _⟩ := hv
  exact order_num A B n n2 c c2 l l2 w h1 g1 (by omega) (by omega)
theorem minus_is (u v : Value) (x y k m : Nat) (w : World) (hu : IsNat w u x k) (hv : IsNat w v y m) (hk : k ≤ 10000) (hm : m ≤ 10000) (hle : y ≤ x) :
    Calls Tryz.prog 97 #[u, v] w fun e w' => ∃ z, e = .returned z ∧ IsNew w.heap.size w' z (x - y) k ∧ Kp No w w' := by
  obtain ⟨A, n, c, l, rfl, h1, rfl, h3, _⟩ := hu
  obtain ⟨B, n2, c2, l2, rfl, g1, rfl, g3, _⟩ := hv
  refine (minus_num A B n n2 c c2 l l2 w h1 g1 (by omega) (by omega) hle).mono ?_
  rintro e w' ⟨z, rfl, ⟨⟨a, n', c', l', e1, e2, e3, e4, e5⟩, hf⟩, hk⟩
  exact ⟨z, rfl, ⟨⟨a, n', c', l', e1, e2, e3, by omega, e5⟩, hf⟩, hk⟩
theorem MulR.no {w wr w' : World} {N : Nat} {out : List Nat} (h : MulR w N out wr) (hk : Kp No wr w') : MulR w N out w' :=
  ⟨h.len, h.small, own_kp h.own hk (fun _ _ h => h), h.kp.tr hk⟩
theorem cmpN_ge {a b : Nat} (h : b ≤ a) : 0 ≤ cmpN a b := by
  unfold cmpN
  split <;> (try split) <;> omega
theorem IsNat.nil (w : World) : IsNat w (.slice none 0 0) 0 0 :=
  ⟨none, 0, 0, [], rfl, ⟨rfl, fun i x hx => by simp at hx, fun x hx => by simp at hx⟩, rfl, Nat.le_refl _, fun _ => ⟨rfl, rfl⟩, fun j hj => by omega⟩
theorem make_us2 (k : Nat) (hk : k ≤ 100000) (w : World) : (Instr.makeSlice 87 (.int .i64 k) (.int .i64 k)).run Tryz.prog w = .ok (.slice (some ⟨w.heap.size, 0, none⟩) k k) (w.alloc (.cells ((List.replicate k 0).map u32V).toArray 134)) := make_us k k rfl hk w
set_option maxHeartbeats 1000000 in
set_option maxRecDepth 100000 in
theorem divide_num (A B : Option Addr) (n m ca cb y : Nat) (a : List Nat) (w : World) (ha : NatAt w A n a) (hb : IsNat w (.slice B m cb) y m) (hn : n ≤ 300) (hm : m ≤ 300) (hy : 0 < y) (hym : y < BB ^ m) :
    Calls Tryz.prog 82 #[.slice A n ca, .slice B m cb] w fun e w' => ∃ v r, e = .returned (.tuple #[v, r]) ∧ IsNew w.heap.size w' v (valN BB a / y) n ∧ IsNat w' r (valN BB a % y) m ∧ Kp No w w' := by
  have hBB : 0 < BB := by unfold BB; omega
  have hal := ha.len
  have SZ := Lib.hid (fun w0 (h : Kp No w w0) => size_num A n ca a w0 (ha.no h) (by omega))
  have BT := Lib.hid (fun i w0 (h : Kp No w w0) (hi : i < 32 * n) => bit_any A n ca i a w0 (ha.no h) (by omega) hi)
  have HA := Lib.hid ha
  have HB := Lib.hid hb
  have HY := Lib.hid hy
  have HYM := Lib.hid hym
  have hmk := make_us2 n (by omega)
  clear ha hb hy hym
  go_enter Tryz.func82, Tryz.ntmps82
  go_wp2_with fail
  clear hmk
  have M0 : MulR w n (List.replicate n 0) (w.alloc (.cells (Array.replicate n (u32V 0)) 134)) := by
    refine ⟨by simp, fun x hx => by rw [(List.mem_replicate.1 hx).2]; exact hBB, ?_, Kp.alloc _ _ _⟩
    have h := own_made w (e := 134) (n := n) (s := 1) (base := w.heap.size) (xs := (List.replicate n 0).map u32V) (by simp) (by omega) (by unfold maxLen; omega)
    simpa using h
  have S1 := SZ.out _ M0.kp
  have M0 := Lib.hid M0
  refine S1.mono ?_
  rintro _ w1 ⟨s0, rfl, hs0, hs1, k1⟩
  have S0 := Lib.hid hs0
  have M1 := Lib.hid (show MulR w n (List.replicate n 0) w1 from ⟨M0.out.len, M0.out.small, own_kp M0.out.own (show Kp No _ w1 from k1) (fun _ _ h => h), M0.out.kp.tr k1⟩)
  clear S1 hs0 k1
  have hw0 : IntKind.i64.wrap ((s0 : Int) - 1) = (s0 : Int) - 1 := by rw [IntKind.wrap_i64]; omega
  go_wp2_with fail
  go_loopw [7, 8] (fun r i wr => ∃ (s : Nat) (out : List Nat) (rv : Value), s ≤ 32 * n ∧ i = .int .i64 ((s : Int) - 1) ∧ rv = r ∧ MulR w n out wr ∧ IsNew (w.heap.size + 1) wr r (valN BB a / 2 ^ s % y) m ∧ valN BB out = valN BB a / 2 ^ s / y * 2 ^ s) (fun _ i _ => (intOf i + 1).toNat)
  case atStart =>
    refine ⟨s0, List.replicate n 0, _, hs1, rfl, rfl, M1.out, ?_, ?_⟩
    · rw [Nat.div_eq_of_lt S0.out, Nat.zero_mod]
      exact ⟨(IsNat.nil w1).le (by omega), fun b hb => by cases hb⟩
    · rw [Nat.div_eq_of_lt S0.out, Nat.zero_div, Nat.zero_mul, valN_zeros]
  case round =>
    obtain ⟨s, out, r, hs, rfl, rfl, hR, hI, hV⟩ := hrel
    have HR := Lib.hid hR
    have HI := Lib.hid hI
    have HV := Lib.hid hV
    clear hR hI hV
    by_cases hpos : 0 < s
    · obtain ⟨i, rfl⟩ : ∃ i, s = i + 1 := ⟨s - 1, by omega⟩
      have DV := Lib.hid (div_round (valN BB a) y i HY.out)
      have BV := bit_val (valN BB a) i
      rw [← limN_digit HA.out.small] at BV
      have B1 := BT.out i wr HR.out.kp (by omega)
      have hbt : limN a (i / 32) / 2 ^ (i % 32) % 2 ≤ 1 := by omega
      rw [BV] at B1 hbt
      rw [show (((i + 1 : Nat) : Int) - 1) = (i : Int) by omega]
      have hi0 : (0 : Int) ≤ (i : Int) := by omega
      have hi1 : IntKind.i64.wrap ((i : Int) - 1) = (i : Int) - 1 := by rw [IntKind.wrap_i64]; omega
      generalize valN BB a / 2 ^ i % 2 = bt at *
      have D1 := Lib.hid (double_is r _ m bt wr HI.out.1 (by omega) hbt)
      have B1 := Lib.hid B1
      generalize hRm : valN BB a / 2 ^ (i + 1) % y = Rm at *
      have HRm := Lib.hid hRm
      have HBT := Lib.hid hbt
      clear BV hbt hRm
      go_wp2_with fail
      refine B1.out.mono ?_
      rintro _ w2 ⟨rfl, rfl⟩
      go_wp2_with fail
      refine D1.out.mono ?_
      rintro _ w3 ⟨z, rfl, hz, k3⟩
      have HZ := Lib.hid hz
      have M3 := Lib.hid (HR.out.no k3)
      have B3 := Lib.hid (HB.out.no M3.out.kp)
      have HSZ := Lib.hid (show w.heap.size + 1 ≤ w2.heap.size from (own_ge HR.out.own (g := w.heap.size) rfl).2)
      clear hz k3
      have OR := Lib.hid (order_is z (.slice B m cb) _ y (m + 1) m w3 HZ.out.1 B3.out (by omega) (by omega))
      go_wp2_with fail
      by_cases hc : y ≤ 2 * Rm + bt
      · have hz0 := cmpN_ge hc
        obtain ⟨c, hcc⟩ : ∃ c : Int, cmpN (2 * Rm + bt) y = c := ⟨_, rfl⟩
        rw [hcc] at OR hz0
        clear hcc
        refine OR.out.mono ?_
        rintro _ w4 ⟨rfl, rfl⟩
        have MN := Lib.hid (minus_is z (.slice B m cb) _ y (m + 1) m w3 HZ.out.1 B3.out (by omega) (by omega) hc)
        go_wp2_with fail
        refine MN.out.mono ?_
        rintro _ w5 ⟨z2, rfl, hz2, k5⟩
        have HZ2 := Lib.hid hz2
        have M5 := Lib.hid (M3.out.no k5)
        clear hz2 k5
        obtain ⟨q, hq⟩ : ∃ q, q = i / 32 := ⟨_, rfl⟩
        obtain ⟨e, he⟩ : ∃ e, e = i % 32 := ⟨_, rfl⟩
        obtain ⟨L, hL⟩ : ∃ L, out[q]? = some L := ⟨_, List.getElem?_eq_getElem (by have := M5.out.len; omega)⟩
        have zc := own_cell M5.out.own (j := q) (u := u32V L) (by rw [List.getElem?_map, hL]; rfl)
        have zf := own_free M5.out.own q
        unfold u32V at zc
        have t1 : (i : Int).tdiv 32 = (q : Int) := by rw [Int.tdiv_eq_ediv_of_nonneg (by omega)]; omega
        have t2 : (i : Int).tmod 32 = (e : Int) := by rw [Int.tmod_eq_emod_of_nonneg (by omega)]; omega
        have t3 : (i : Int) / 32 = (q : Int) := by omega
        have t4 : (i : Int) % 32 = (e : Int) := by omega
        have hqn : q < n := by omega
        have he32 : e < 32 := by omega
        have HQ := Lib.hid hq
        have HE := Lib.hid he
        have HL := Lib.hid hL
        clear hq he hL
        go_wp2_with fail
        go_region
        go_wp2_with fail
        go_round
        case rel =>
          have hLs : L < BB := M5.out.small L (List.mem_of_getElem? HL.out)
          have hLd : L = valN BB out / BB ^ (i / 32) % BB := by
            have h1 := limN_digit M5.out.small (i / 32)
            rwa [limN_some (HQ.out ▸ HL.out)] at h1
          obtain ⟨o1, o2⟩ := or_set (Q := valN BB out) (i := i) (by rw [HV.out]; exact Nat.mul_mod_left _ _)
          rw [← hLd, ← HE.out] at o1 o2
          have hval : bits .or .u32 (L : Int) (2 ^ e % 4294967296) = ((L + 2 ^ e : Nat) : Int) := by
            have hp : 2 ^ e < 2 ^ 32 := Nat.pow_lt_pow_right (by omega) he32
            have h0 : ∀ P : Nat, P < 4294967296 → (P : Int) % 4294967296 = (P : Int) := fun P h => by omega
            have h1 : ((2 : Int) ^ e % 4294967296) = ((2 ^ e : Nat) : Int) := by
              rw [show (2 : Int) ^ e = ((2 ^ e : Nat) : Int) by simp, h0 _ hp]
            rw [h1, or_u32 _ _ (by unfold BB at hLs; omega) (by omega), o1]
          have hRy : Rm < y := by rw [← HRm.out]; exact Nat.mod_lt _ HY.out
          have hbt := HBT.out
          have e1 : (2 * Rm + bt) % y = 2 * Rm + bt - y := by rw [Nat.mod_eq_sub_mod hc, Nat.mod_eq_of_lt (by omega)]
          have e2 : (2 * Rm + bt) / y = 1 := by rw [Nat.div_eq_sub_div HY.out hc, Nat.div_eq_of_lt (by omega)]
          have hsz3 : w.heap.size + 1 ≤ w3.heap.size := (own_ge M3.out.own (g := w.heap.size) rfl).2
          have hk := (kp_setOne w5 w.heap.size q (.int .u32 ((L + 2 ^ e : Nat) : Int))).tr (Kp.drew (Kq.One w.heap.size) _)
          rw [hval]
          refine ⟨i, out.set q (L + 2 ^ e), z2, by omega, rfl, rfl, (M5.out.set q (L + 2 ^ e) o2).no (Kp.drew No _), ⟨?_, HZ2.out.2.mono hsz3⟩, ?_⟩
          · rw [DV.out.1, e1]
            refine (HZ2.out.1.kp hk (fun b hb e => ?_)).tight ?_
            · have := HZ2.out.2 b hb
              unfold Kq.One at e
              omega
            · have := HYM.out
              omega
          · have s1 := valN_set BB out q (L + 2 ^ e) L HL.out
            have s2 := i_split i
            rw [← HQ.out, ← HE.out] at s2
            rw [DV.out.2, e2, Nat.add_mul, Nat.one_mul]
            rw [Nat.mul_add, ← s2] at s1
            have s3 := HV.out
            generalize valN BB a / 2 ^ (i + 1) / y = Q at s3 ⊢
            rw [Nat.pow_succ, Nat.mul_comm (2 ^ i) 2, ← Nat.mul_assoc, Nat.mul_comm _ 2] at s3
            omega
        case measure => simp [intOf] <;> omega
      · obtain hz0 : cmpN (2 * Rm + bt) y = -1 := by
          unfold cmpN
          rw [if_pos (by omega)]
        rw [hz0] at OR
        clear hz0
        refine OR.out.mono ?_
        rintro _ w4 ⟨rfl, rfl⟩
        have d1 : (2 * Rm + bt) / y = 0 := Nat.div_eq_of_lt (by omega)
        have d2 : (2 * Rm + bt) % y = 2 * Rm + bt := Nat.mod_eq_of_lt (by omega)
        rw [d1, d2] at DV
        clear d1 d2
        go_wp2_with fail
        go_round
        case rel =>
          refine ⟨i, out, z, by omega, rfl, rfl, M3.out, ?_, ?_⟩
          · rw [DV.out.1]
            refine ⟨HZ.out.1.tight ?_, HZ.out.2.mono ?_⟩
            · have := HYM.out
              omega
            · exact HSZ.out
          · rw [HV.out, DV.out.2, Nat.pow_succ, Nat.add_zero, Nat.mul_comm (2 ^ i) 2, ← Nat.mul_assoc, Nat.mul_comm (_ / y) 2]
        case measure => simp [intOf] <;> omega
    · obtain rfl : s = 0 := by omega
      have TR := trim_any (some ⟨w.heap.size, 0, none⟩) n n out wr (NatAt.of_own HR.out.own HR.out.small) (by omega) (fun h => by cases h) (Nat.le_refl _) (by unfold maxLen; omega)
      have e1 := HV.out
      have e2 := HI.out
      rw [Nat.pow_zero, Nat.div_one, Nat.mul_one] at e1
      rw [Nat.pow_zero, Nat.div_one] at e2
      rw [e1] at TR
      have TR := Lib.hid TR
      have HI2 := Lib.hid e2
      clear e1 e2
      go_wp2_with fail
      refine TR.out.mono ?_
      rintro _ w' ⟨v, rfl, hv, hkp⟩
      go_wp2_with fail
      refine bodyPost_ret (v := .tuple #[v, r]) (by simp [results, Tryz.results82, go_sem]) rfl ⟨v, r, rfl, ⟨hv.1, hv.2.mono HR.out.kp.size⟩, HI2.out.1.no hkp, HR.out.kp.tr hkp⟩
end Go.Proofs.YtakgcnjpmpcekaaGreat
