/- Square roots of whole numbers, and what grows with what: plain. No program in sight. · spans: Div, where the quotient is not below 0 and the divisor is above. · Chapter 09: Foot: plain. -/
import Derived.BigQuiet
import Derived.Test.YtamjhpdgclbfgaaXLibHvM
import Derived.Test.YtamjhpdgclbfgaaXSpsM
import Derived.Test.YtamjhpdgclbfgaaXBodM
namespace Go.Kq

def isq : Nat → Nat
  | 0 => 0
  | n + 1 => if (isq n + 1) * (isq n + 1) ≤ n + 1 then isq n + 1 else isq n
theorem isq_spec : ∀ n, isq n * isq n ≤ n ∧ n < (isq n + 1) * (isq n + 1)
  | 0 => by simp [isq]
  | n + 1 => by
    obtain ⟨h1, h2⟩ := isq_spec n
    unfold isq
    split
    · rename_i h
      refine ⟨h, ?_⟩
      have : (isq n + 1 + 1) * (isq n + 1 + 1) = (isq n + 1) * (isq n + 1) + (isq n + 1) + (isq n + 1) + 1 := by
        rw [Nat.mul_add, Nat.add_mul]
        omega
      omega
    · rename_i h
      omega
theorem sq_mono {a b : Nat} (h : a ≤ b) : a * a ≤ b * b := Nat.mul_le_mul h h
theorem sq_lt {a b : Nat} (h : a * a < b * b) : a < b := by
  rcases Nat.lt_or_ge a b with h1 | h1
  · exact h1
  · exact absurd (sq_mono h1) (by omega)
theorem isq_unique {n r : Nat} (h1 : r * r ≤ n) (h2 : n < (r + 1) * (r + 1)) : r = isq n := by
  obtain ⟨h3, h4⟩ := isq_spec n
  have a := sq_lt (a := r) (b := isq n + 1) (by omega)
  have b := sq_lt (a := isq n) (b := r + 1) (by omega)
  omega
theorem isq_mono {a b : Nat} (h : a ≤ b) : isq a ≤ isq b := by
  obtain ⟨h1, _⟩ := isq_spec a
  obtain ⟨_, h4⟩ := isq_spec b
  have := sq_lt (a := isq a) (b := isq b + 1) (by omega)
  omega
/-- Rounded up. -/
def csq (n : Nat) : Nat := if isq n * isq n < n then isq n + 1 else isq n
theorem csq_le (n : Nat) : isq n ≤ csq n ∧ csq n ≤ isq n + 1 ∧ n ≤ csq n * csq n := by
  obtain ⟨h1, h2⟩ := isq_spec n
  unfold csq
  split
  · exact ⟨by omega, by omega, by omega⟩
  · exact ⟨by omega, by omega, by omega⟩
/-! ### rounding -/
theorem rnd_up (v : Int) {d : Int} (hd : 0 < d) : v ≤ rnd true v d * d ∧ rnd true v d * d < v + d := by
  unfold rnd
  rw [if_pos rfl]
  have h1 := Int.emod_nonneg (-v) (show d ≠ 0 by omega)
  have h2 := Int.emod_lt_of_pos (-v) hd
  have h3 := Int.mul_ediv_add_emod (-v) d
  rw [Int.mul_comm] at h3
  rw [Int.neg_mul]
  omega
end Go.Kq

namespace Go.Proofs.Ytamjhpdgclbfgaa
open Go.RowKit Go.Kq

theorem ck2_cells (w0 : World) (g : Nat) (a b c d : Int) (h0 : w0.cell? ⟨g, 0, none⟩ = some (.int .i64 a)) (h1 : w0.cell? ⟨g, 1, none⟩ = some (.int .i64 b)) (h2 : w0.cell? ⟨g, 2, none⟩ = some (.int .i64 c)) (h3 : w0.cell? ⟨g, 3, none⟩ = some (.int .i64 d)) : ∀ (k : Nat) (x : Int × Int), [(a, b), (c, d)][k]? = some x → w0.cell? ⟨g, 0 + k * 2, none⟩ = some (.int .i64 x.1) ∧ w0.cell? ⟨g, 0 + k * 2 + 1, none⟩ = some (.int .i64 x.2) := by
  intro k x hx
  match k, hx with
  | 0, hx => simp at hx; subst hx; exact ⟨h0, h1⟩
  | 1, hx => simp at hx; subst hx; exact ⟨h2, h3⟩
  | k + 2, hx => simp at hx
theorem rnd_low {a : Int} {d : Nat} (h : 0 ≤ a) : 0 ≤ rnd false a d ∧ rnd false a d ≤ a := by
  have e : rnd false a (d : Int) = a / (d : Int) := rfl
  rw [e]
  exact ⟨Int.ediv_nonneg h (by omega), Int.ediv_le_self _ h⟩
theorem rnd_up {a : Int} {d : Nat} (h : 0 ≤ a) (hd : 1 ≤ d) : 0 ≤ rnd true a d ∧ rnd true a d ≤ a := by
  have e : rnd true a (d : Int) = -((-a) / (d : Int)) := rfl
  rw [e]
  have h1 : (-a) / (d : Int) ≤ 0 := Int.ediv_nonpos_of_nonpos_of_neg (by omega) (by omega)
  have h2 : -a ≤ (-a) / (d : Int) := by
    rw [Int.le_ediv_iff_mul_le (by omega)]
    have : a * 1 ≤ a * (d : Int) := Int.mul_le_mul_of_nonneg_left (by omega) h
    rw [Int.neg_mul]
    omega
  omega
theorem fits_in {a : Int} (h : 0 ≤ a) (h2 : a ≤ 4611686018427387904) : fits a = true := by
  unfold fits M62
  simp
  omega
set_option maxHeartbeats 8000000 in
set_option maxRecDepth 100000 in
theorem div_ok (lo hi : Int) (bl bh : Nat) (w : World) (h0 : 0 ≤ lo) (h1 : lo ≤ hi) (h2 : hi ≤ 4611686018427387904) (h3 : 1 ≤ bl) (h4 : bl ≤ bh) (h5 : bh ≤ 4611686018427387904) :
    Calls Try.prog 48 #[ivV lo hi, ivV bl bh] w fun e w' => e = .returned (ieV (rnd false lo bh, rnd true hi bl, 0)) ∧ Kp No w w' := by
  have hck : ckE [(lo, hi), ((bl : Int), (bh : Int))] = 0 := by
    unfold ckE
    rw [if_pos, if_pos]
    · intro x hx
      simp at hx
      rcases hx with rfl | rfl
      · exact h1
      · simp; omega
    · intro x hx
      simp at hx
      rcases hx with rfl | rfl
      · exact ⟨fits_in h0 (by omega), fits_in (by omega) h2⟩
      · exact ⟨fits_in (by simp) (by simp; omega), fits_in (by simp) (by simp; omega)⟩
  have HCK := Lib.hid (fun g w0 hc => check_any [(lo, hi), ((bl : Int), (bh : Int))] g 0 2 2 w0 rfl (by omega) hc)
  rw [hck] at HCK
  have rl := rnd_low (d := bh) h0
  have ru := rnd_up (a := hi) (d := bl) (by omega) h3
  have T1 := Lib.hid (fun w0 => times_any lo 1 w0 (by omega) (by omega) (by omega) (by omega))
  have T2 := Lib.hid (fun w0 => times_any hi 1 w0 (by omega) (by omega) (by omega) (by omega))
  have O1 := Lib.hid (fun w0 => over_any (lo * 1) bh false w0 (by omega) (by omega))
  have O2 := Lib.hid (fun w0 => over_any (hi * 1) bl true w0 (by omega) (by omega))
  rw [Int.mul_one] at T1 T2 O1 O2
  rw [fits_in rl.1 (by omega), if_pos rfl] at O1
  rw [fits_in ru.1 (by omega), if_pos rfl] at O2
  have hw1 : IntKind.u64.wrap (bh : Int) = (bh : Int) := by rw [IntKind.wrap_u64]; omega
  have hw2 : IntKind.u64.wrap (bl : Int) = (bl : Int) := by rw [IntKind.wrap_u64]; omega
  have q1 : ¬ (bl : Int) ≤ 0 := by omega
  have q2 : ¬ (bh : Int) < 0 := by omega
  have q3 : ¬ lo < 0 := by omega
  have q4 : ¬ hi < 0 := by omega
  generalize rnd false lo bh = r1 at *
  generalize rnd true hi bl = r2 at *
  simp only [lgV_p] at T1 T2 O1 O2
  generalize lgP lo = p1 at *
  generalize lgP hi = p2 at *
  obtain ⟨p11, p12, p13⟩ := p1
  obtain ⟨p21, p22, p23⟩ := p2
  simp only [p3V] at T1 T2 O1 O2
  generalize (bl : Int) = dl at *
  generalize (bh : Int) = dh at *
  clear hck rl ru h0 h1 h2 h3 h4 h5
  simp only [ieV, ivV]
  go_enter Try.func48, Try.ntmps48
  go_wp2_with fail
  refine (HCK.out _ _ (ck2_cells _ _ _ _ _ _ (by go_simp) (by go_simp) (by go_simp) (by go_simp))).mono ?_
  rintro e w1 ⟨rfl, hk⟩
  have qA := Lib.hid (hk.heap (((Kp.alloc No _ _).tr ((Kp.alloc No _ _).tr (Kp.alloc No _ _))).heap (at_new (n := w.heap.size) rfl) id) id)
  have qB := Lib.hid (hk.heap (((Kp.alloc No _ _).tr (Kp.alloc No _ _)).heap (at_new (n := w.heap.size + 1) (by simp)) id) id)
  have qO := Lib.hid (hk.heap ((Kp.alloc No _ _).heap (at_new (n := w.heap.size + 1 + 1) (by simp)) id) id)
  have KP := Lib.hid (((Kp.alloc No w _).tr ((Kp.alloc No _ _).tr ((Kp.alloc No _ _).tr (Kp.alloc No _ _)))).tr hk)
  obtain ⟨c0, c1, _, _⟩ := two_cells qA.out
  obtain ⟨d0, d1, _, _⟩ := two_cells qB.out
  clear hk
  go_wp2_with fail
  go_quiet (fail)
  have kq : Kp No w1 (w1.drewN nq) := Kp.drewN _ _ _
  generalize w1.drewN nq = w2 at kq ⊢
  have qA2 := Lib.hid (kq.heap qA.out id)
  have qO2 := Lib.hid (kq.heap qO.out id)
  have KP2 := Lib.hid (KP.out.tr kq)
  clear qA qB qO KP c0 c1 d0 d1 kq
  obtain ⟨c0, c1, _, _⟩ := two_cells qA2.out
  go_wp2_with fail
  with_reducible refine (T1.out _).mono ?_
  rintro e w3 ⟨rfl, k3⟩
  go_wp2_with fail
  with_reducible refine (O1.out _).mono ?_
  rintro e w4 ⟨rfl, k4⟩
  have k24 := k3.tr k4
  have qA4 := Lib.hid (k24.heap qA2.out id)
  have qO4 := Lib.hid (k24.heap qO2.out id)
  have KP4 := Lib.hid (KP2.out.tr k24)
  clear qA2 qO2 KP2 c0 c1 k3 k4 k24
  obtain ⟨c0, c1, _, _⟩ := two_cells qA4.out
  go_wp2_with fail
  with_reducible refine (T2.out _).mono ?_
  rintro e w5 ⟨rfl, k5⟩
  go_wp2_with fail
  with_reducible refine (O2.out _).mono ?_
  rintro e w6 ⟨rfl, k6⟩
  have k46 := k5.tr k6
  have qO6 := Lib.hid (k46.heap qO4.out id)
  have KP6 := Lib.hid (KP4.out.tr k46)
  clear qA4 qO4 KP4 c0 c1 k5 k6 k46
  obtain ⟨r0, r1', _, _⟩ := two_cells qO6.out
  go_wp2_with fail
  exact bodyPost_ret (v := .tuple #[.agg #[.int .i64 r1, .int .i64 r2], .int .i64 0]) (by simp [results, Try.results48, go_sem, r0, r1']) rfl ⟨rfl, kp_set2 KP6.out (by omega)⟩
end Go.Proofs.Ytamjhpdgclbfgaa

namespace Go.Proofs.Ytamjhpdgclbfgaa
open Go.RowKit Go.Kq

def slR (top toe l : Int) : Int := 4 * l * l + (top - toe) * (top - toe)
def slL (r : Int) : Int := rnd false (isq r.toNat : Nat) 2
def slH (r : Int) : Int := rnd true (csq r.toNat : Nat) 2
def footH (top toe l : Int) : Int := slH (slR top toe l) + rnd true (piU (piU (top * (top - toe)))) (slL (slR top toe l) * 8)
def footV (top toe l s : Int) : Ct × Int := if outB toe 0 1000000 then (⟨0, 0⟩, 2) else if bodyE top l s then (⟨0, 0⟩, 2) else if top < toe then (⟨0, 0⟩, 7) else (⟨piU top + s, footH top toe l⟩, 0)
theorem sl_bd {top toe l : Int} (ht : 1000 ≤ top ∧ top ≤ 1000000) (hl : 1000 ≤ l ∧ l ≤ 12000000) (h0 : 0 ≤ toe ∧ toe ≤ top) : 4000000 ≤ slR top toe l ∧ slR top toe l ≤ 577000000000000 ∧ 1000000 ≤ l * l ∧ l * l ≤ 144000000000000 ∧ 0 ≤ (top - toe) * (top - toe) ∧ (top - toe) * (top - toe) ≤ 1000000000000 ∧ 4 * l * l = 4 * (l * l) := by
  have e : 4 * l * l = 4 * (l * l) := Int.mul_assoc _ _ _
  have a1 := Int.mul_le_mul (a := 1000) (b := 1000) (c := l) (d := l) (by omega) (by omega) (by omega) (by omega)
  have a2 := Int.mul_le_mul (a := l) (b := l) (c := 12000000) (d := 12000000) (by omega) (by omega) (by omega) (by omega)
  have a3 := Int.mul_nonneg (a := top - toe) (b := top - toe) (by omega) (by omega)
  have a4 := Int.mul_le_mul (a := top - toe) (b := top - toe) (c := 1000000) (d := 1000000) (by omega) (by omega) (by omega) (by omega)
  unfold slR
  rw [e]
  omega
theorem sl_in {r : Int} (h : 4000000 ≤ r ∧ r ≤ 577000000000000) : 1000 ≤ slL r ∧ slL r ≤ slH r ∧ slH r ≤ 40000000 := by
  have e1 : slL r = ((isq r.toNat : Nat) : Int) / 2 := rfl
  have e2 : slH r = -((-((csq r.toNat : Nat) : Int)) / 2) := rfl
  obtain ⟨b1, b2⟩ := isq_spec r.toNat
  obtain ⟨c1, c2, c3⟩ := csq_le r.toNat
  have h1 : 2000 ≤ isq r.toNat := by
    rcases Nat.lt_or_ge (isq r.toNat) 2000 with hlt | hge
    · have := Nat.mul_le_mul (show isq r.toNat + 1 ≤ 2000 by omega) (show isq r.toNat + 1 ≤ 2000 by omega)
      omega
    · exact hge
  have h2 : isq r.toNat ≤ 30000000 := by
    rcases Nat.lt_or_ge 30000000 (isq r.toNat) with hlt | hge
    · have := Nat.mul_le_mul (show 30000000 ≤ isq r.toNat by omega) (show 30000000 ≤ isq r.toNat by omega)
      omega
    · exact hge
  rw [e1, e2]
  omega
theorem span_half {a b : Int} (h0 : 0 ≤ a) (h1 : a ≤ b) (h2 : b ≤ 1000000000) : spanV 2 (a * 1) [b * 1] = (rnd false a 2, rnd true b 2, 0) := by
  have e1 : minL (a * 1) [b * 1] = a := by simp only [minL]; omega
  have e2 : maxL (a * 1) [b * 1] = b := by simp only [maxL]; omega
  have d : rnd false a 2 = a / 2 := rfl
  have u : rnd true b 2 = -((-b) / 2) := rfl
  unfold spanV
  rw [e1, e2]
  have f1 : fits (rnd false a 2) = true := by rw [d]; unfold fits M62; simp; omega
  have f2 : fits (rnd true b 2) = true := by rw [u]; unfold fits M62; simp; omega
  rw [f1, f2]
  rfl
theorem span_eight {a b : Int} (h0 : 0 ≤ a) (h1 : a ≤ b) (h2 : b ≤ 1000000000) : spanV 1 (a * 8) [b * 8] = (a * 8, b * 8, 0) := by
  have e1 : minL (a * 8) [b * 8] = a * 8 := by simp only [minL]; omega
  have e2 : maxL (a * 8) [b * 8] = b * 8 := by simp only [maxL]; omega
  have d : rnd false (a * 8) 1 = a * 8 := by change (a * 8) / 1 = _; omega
  have u : rnd true (b * 8) 1 = b * 8 := by change -((-(b * 8)) / 1) = _; omega
  unfold spanV
  rw [e1, e2, d, u]
  have f1 : fits (a * 8) = true := by unfold fits M62; simp; omega
  have f2 : fits (b * 8) = true := by unfold fits M62; simp; omega
  rw [f1, f2]
  rfl
end Go.Proofs.Ytamjhpdgclbfgaa
