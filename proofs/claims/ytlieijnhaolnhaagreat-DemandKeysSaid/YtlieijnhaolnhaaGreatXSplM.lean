/- spans: Scale. · spans: disc, Disc, of a small one. · spans: power, of the second degree. · spans: root, of the second degree. · spans: Root, of the second degree. · spans: Disc, of a small one. -/
import Derived.Deep.RegionHeld3
import Derived.Shelf.Spec.BitsCarry
import Derived.Test.YtlieijnhaolnhaaGreatXSpn
import Derived.Test.YtlieijnhaolnhaaGreatXTkPM
namespace Go.Proofs.YtlieijnhaolnhaaGreat
open Go.RowKit Go.Kq

theorem ck1_cells (w0 : World) (g : Nat) (lo hi : Int) (h0 : w0.cell? ⟨g, 0, none⟩ = some (.int .i64 lo)) (h1 : w0.cell? ⟨g, 1, none⟩ = some (.int .i64 hi)) : ∀ (k : Nat) (x : Int × Int), [(lo, hi)][k]? = some x → w0.cell? ⟨g, 0 + k * 2, none⟩ = some (.int .i64 x.1) ∧ w0.cell? ⟨g, 0 + k * 2 + 1, none⟩ = some (.int .i64 x.2) := by
  intro k x hx
  match k, hx with
  | 0, hx => simp at hx; subst hx; exact ⟨h0, h1⟩
  | k + 1, hx => simp at hx
theorem span_two (den : Nat) (x y : Int) (g : Nat) (w : World) (hd : 0 < den) (hd2 : den < 18446744073709551616)
    (h : w.cell? ⟨g, 0, none⟩ = some (.bool (lgP x).1) ∧ w.cell? ⟨g, 1, none⟩ = some (.int .u64 (lgP x).2.1) ∧ w.cell? ⟨g, 2, none⟩ = some (.int .u64 (lgP x).2.2))
    (h' : w.cell? ⟨g, 3, none⟩ = some (.bool (lgP y).1) ∧ w.cell? ⟨g, 4, none⟩ = some (.int .u64 (lgP y).2.1) ∧ w.cell? ⟨g, 5, none⟩ = some (.int .u64 (lgP y).2.2)) :
    Calls Tryz.prog 100 #[.int .u64 (den : Nat), .slice (some ⟨g, 0, none⟩) 2 2] w fun e w' => e = .returned (ieV (spanV den x [y])) ∧ Kp No w w' := by
  refine span_any den x [y] g 0 1 2 w hd hd2 rfl (by omega) (by omega) (by omega) (by omega) ?_
  intro k v hx
  match k, hx with
  | 0, hx => simp at hx; subst hx; exact ⟨h.1, h.2.1, h.2.2⟩
  | 1, hx => simp at hx; subst hx; exact ⟨h'.1, h'.2.1, h'.2.2⟩
  | k + 2, hx => simp at hx
set_option maxHeartbeats 4000000 in

theorem scale_ok (lo hi num : Int) (den : Nat) (w : World) (hck : ckE [(lo, hi)] = 0) (hd : 0 < den) (hdf : fits (den : Int) = true) (hnf : fits num = true) :
    Calls Tryz.prog 65 #[ivV lo hi, .int .i64 num, .int .i64 (den : Nat)] w fun e w' => e = .returned (ieV (spanV (den : Int) (lo * num) [hi * num])) ∧ Kp No w w' := by
  have hbd := ck_fits hck (lo, hi) (by simp)
  have l1 := fits_bounds hbd.1
  have l2 := fits_bounds hbd.2
  have l3 := fits_bounds hnf
  have l4 := fits_bounds hdf
  simp only at l1 l2 l3 l4
  have HCK := Lib.hid (fun g w0 hc => check_any [(lo, hi)] g 0 1 1 w0 rfl (by omega) hc)
  rw [hck] at HCK
  have hwd : IntKind.u64.wrap (den : Int) = (den : Int) := by rw [IntKind.wrap_u64]; omega
  have T1 := Lib.hid (fun w0 => times_any lo num w0 (by omega) (by omega) (by omega) (by omega))
  have T2 := Lib.hid (fun w0 => times_any hi num w0 (by omega) (by omega) (by omega) (by omega))
  have SP := Lib.hid (fun g w0 h h' => span_two den (lo * num) (hi * num) g w0 hd (by omega) h h')
  generalize spanV (den : Int) (lo * num) [hi * num] = sv at *
  simp only [lgV_p] at T1 T2
  generalize lgP (lo * num) = p1 at *
  generalize lgP (hi * num) = p2 at *
  obtain ⟨p11, p12, p13⟩ := p1
  obtain ⟨p21, p22, p23⟩ := p2
  simp only [p3V] at T1 T2 SP
  have HN1 := Lib.hid (number_any (den : Int))
  have HN2 := Lib.hid (number_any num)
  rw [hdf] at HN1
  rw [hnf] at HN2
  have hd1 : ¬ (den : Int) < 1 := by omega
  clear hbd l1 l2 l3 l4 hck hdf hnf
  obtain ⟨v1, v2, v3⟩ := sv
  simp only [ieV, ivV] at SP ⊢
  go_enter Tryz.func65, Tryz.ntmps65
  go_wp2_with fail
  refine (HCK.out _ _ (ck1_cells _ _ _ _ (by go_simp) (by go_simp))).mono ?_
  rintro e w1 ⟨rfl, hk⟩
  have q0 := hk.heap (((Kp.alloc No _ _).tr (Kp.alloc No _ _)).heap (at_new (n := w.heap.size) rfl) id) id
  have q1 := hk.heap ((Kp.alloc No _ _).heap (at_new (n := w.heap.size + 1) (by simp)) id) id
  obtain ⟨c0, c1, _, _⟩ := two_cells q0
  obtain ⟨r0, r1, z0, z1⟩ := two_cells q1
  have KP := ((Kp.alloc No w _).tr ((Kp.alloc No _ _).tr (Kp.alloc No _ _))).tr hk
  go_wp2_with fail
  refine (HN1.out _).mono ?_
  rintro e w2 ⟨rfl, hw2⟩
  subst hw2
  go_wp2_with fail
  refine (HN2.out _).mono ?_
  rintro e w2 ⟨rfl, hw2⟩
  subst hw2
  go_wp2_with fail
  go_region_held3 (fun w' => w'.cell? ⟨w.heap.size, 0, none⟩ = some (.int .i64 lo) ∧ w'.cell? ⟨w.heap.size, 1, none⟩ = some (.int .i64 hi)) (first | exact ⟨c0, c1⟩ | go_keep)
    ((first | (go_at_call 101; with_reducible refine (T1.out _).mono ?_; rintro e w3 ⟨rfl, k3⟩; have L3 := Lib.hid ((Kp.drew No _).tr k3); have c0 := L3.out.cell c0 (fun h => h); have c1 := L3.out.cell c1 (fun h => h); clear k3) | (go_at_call 101; with_reducible refine (T2.out _).mono ?_; rintro e w4 ⟨rfl, k4⟩; have L4 := Lib.hid (L3.out.tr k4); have c0 := k4.cell c0 (fun h => h); have c1 := k4.cell c1 (fun h => h); clear k4) | (go_at_call 100; refine (SP.out _ _ ⟨by go_simp, by go_simp, by go_simp⟩ ⟨by go_simp, by go_simp, by go_simp⟩).mono ?_; rintro e w5 ⟨rfl, k5⟩; have L5 := Lib.hid (L4.out.tr ((Kp.alloc No _ _).tr k5)); have c0 := k5.cell (a := ⟨w.heap.size, 0, none⟩) (v := .int .i64 lo) (by go_simp) (fun h => h); have c1 := k5.cell (a := ⟨w.heap.size, 1, none⟩) (v := .int .i64 hi) (by go_simp) (fun h => h); have z0 := (L5.out.frozen (World.block_lt_of_cell? _ _ r0) id).trans z0; have z1 := (L5.out.frozen (World.block_lt_of_cell? _ _ r1) id).trans z1; have r0 := L5.out.cell r0 id; have r1 := L5.out.cell r1 id; clear k5)))
  go_wp2_with fail
  exact bodyPost_ret (v := .tuple #[.agg #[.int .i64 v1, .int .i64 v2], .int .i64 v3]) (by simp [results, Tryz.results65, go_sem, r0, r1]) rfl ⟨rfl, kp_set2 (KP.tr L5.out) (by omega)⟩
end Go.Proofs.YtlieijnhaolnhaaGreat

namespace Go.Proofs.YtlieijnhaolnhaaGreat
open Go.RowKit Go.Kq

set_option maxHeartbeats 2000000 in
theorem disc_parts (up : Bool) (n m p D more low q r : Int) (w : World)
    (hp : p = if up then 3141592653589793239 else 3141592653589793238)
    (hD : D = 4000000000000000000)
    (M1 : Hid (∀ w0, Calls Tryz.prog 143 #[.int .u64 n, .int .u64 n] w0 fun e w' => e = .returned (.tuple #[.int .u64 0, .int .u64 m]) ∧ w' = w0))
    (M2 : Hid (∀ w0, Calls Tryz.prog 143 #[.int .u64 0, .int .u64 p] w0 fun e w' => e = .returned (.tuple #[.int .u64 0, .int .u64 0]) ∧ w' = w0))
    (M3 : Hid (∀ w0, Calls Tryz.prog 143 #[.int .u64 m, .int .u64 p] w0 fun e w' => e = .returned (.tuple #[.int .u64 more, .int .u64 low]) ∧ w' = w0))
    (D1 : Hid (∀ w0, Calls Tryz.prog 146 #[.int .u64 0, .int .u64 more, .int .u64 D] w0 fun e w' => e = .returned (.tuple #[.int .u64 0, .int .u64 more]) ∧ Kp No w0 w'))
    (D2 : Hid (∀ w0, Calls Tryz.prog 146 #[.int .u64 more, .int .u64 low, .int .u64 D] w0 fun e w' => e = .returned (.tuple #[.int .u64 q, .int .u64 r]) ∧ Kp No w0 w'))
    (A1 : Hid (∀ w0, (callFunc 145 #[.int .u64 0, .int .u64 more, .int .u64 0]).run Tryz.prog w0 = .ok (.value (.tuple #[.int .u64 more, .int .u64 0])) w0))
    (hq : q < 4611686018427387904) (hq0 : 0 ≤ q) :
    Calls Tryz.prog 104 #[.int .u64 n, .bool up] w fun e w' => e = .returned (.tuple #[.int .i64 (if up then (if r = 0 then q else q + 1) else q), .bool true]) ∧ Kp No w w' := by
  have hwq : IntKind.i64.wrap q = q := by rw [IntKind.wrap_i64]; omega
  have hwq1 : IntKind.i64.wrap (q + 1) = q + 1 := by rw [IntKind.wrap_i64]; omega
  have hwu1 : IntKind.u64.wrap (q + 1) = q + 1 := by rw [IntKind.wrap_u64]; omega
  have hq4 : ¬ 4611686018427387904 < q := by omega
  have hq5 : q ≤ 4611686018427387904 := by omega
  have hq6 : q + 1 ≤ 4611686018427387904 := by omega
  cases up
  · simp only [Bool.false_eq_true, if_false] at hp ⊢
    go_enter Tryz.func104, Tryz.ntmps104
    rw [← hp, ← hD]
    clear hp hD
    go_wp2_with fail
    refine (M1.out _).mono ?_
    rintro e w1 ⟨rfl, hw⟩
    subst hw
    go_wp2_with fail
    refine (M2.out _).mono ?_
    rintro e w2 ⟨rfl, hw⟩
    subst hw
    go_wp2_with fail
    refine (M3.out _).mono ?_
    rintro e w3 ⟨rfl, hw⟩
    subst hw
    have hA := A1.out
    go_wp2_with fail
    clear hA
    refine (D1.out _).mono ?_
    rintro e w4 ⟨rfl, k4⟩
    go_wp2_with fail
    refine (D2.out _).mono ?_
    rintro e w5 ⟨rfl, k5⟩
    go_wp2_with fail
    refine bodyPost_ret (v := .tuple #[.int .i64 q, .bool true]) (by simp [results, Tryz.results104, go_sem]) rfl ⟨rfl, k4.tr k5⟩
  · simp only [if_true] at hp ⊢
    by_cases hr : r = 0
    · subst hr
      rw [if_pos rfl]
      go_enter Tryz.func104, Tryz.ntmps104
      rw [← hp, ← hD]
      clear hp hD
      go_wp2_with fail
      refine (M1.out _).mono ?_
      rintro e w1 ⟨rfl, hw⟩
      subst hw
      go_wp2_with fail
      refine (M2.out _).mono ?_
      rintro e w2 ⟨rfl, hw⟩
      subst hw
      go_wp2_with fail
      refine (M3.out _).mono ?_
      rintro e w3 ⟨rfl, hw⟩
      subst hw
      have hA := A1.out
      go_wp2_with fail
      clear hA
      refine (D1.out _).mono ?_
      rintro e w4 ⟨rfl, k4⟩
      go_wp2_with fail
      refine (D2.out _).mono ?_
      rintro e w5 ⟨rfl, k5⟩
      go_wp2_with fail
      refine bodyPost_ret (v := .tuple #[.int .i64 q, .bool true]) (by simp [results, Tryz.results104, go_sem]) rfl ⟨rfl, k4.tr k5⟩
    · rw [if_neg hr]
      have hr' : (r == 0) = false := by rw [beq_eq_false_iff_ne]; exact hr
      go_enter Tryz.func104, Tryz.ntmps104
      rw [← hp, ← hD]
      clear hp hD
      go_wp2_with fail
      refine (M1.out _).mono ?_
      rintro e w1 ⟨rfl, hw⟩
      subst hw
      go_wp2_with fail
      refine (M2.out _).mono ?_
      rintro e w2 ⟨rfl, hw⟩
      subst hw
      go_wp2_with fail
      refine (M3.out _).mono ?_
      rintro e w3 ⟨rfl, hw⟩
      subst hw
      have hA := A1.out
      go_wp2_with fail
      clear hA
      refine (D1.out _).mono ?_
      rintro e w4 ⟨rfl, k4⟩
      go_wp2_with fail
      refine (D2.out _).mono ?_
      rintro e w5 ⟨rfl, k5⟩
      go_wp2_with fail
      refine bodyPost_ret (v := .tuple #[.int .i64 (q + 1), .bool true]) (by simp [results, Tryz.results104, go_sem]) rfl ⟨rfl, k4.tr k5⟩
def piN (up : Bool) : Nat := if up then 3141592653589793239 else 3141592653589793238
theorem up_law (q r : Nat) : ((q + (if r ≠ 0 then 1 else 0) : Nat) : Int) = if ((r : Nat) : Int) = 0 then ((q : Nat) : Int) else ((q : Nat) : Int) + 1 := by
  by_cases hz : r = 0
  · subst hz
    simp
  · rw [if_pos hz, if_neg (by omega)]
    omega
theorem dlo_gen (n k d : Nat) : rnd false ((n : Int) * (n : Int) * (k : Int)) (d : Int) = ((n * n * k / d : Nat) : Int) := by
  unfold rnd
  rw [if_neg (by simp), ← Int.natCast_mul, ← Int.natCast_mul, ← Int.natCast_ediv]
theorem dhi_gen (n k d : Nat) (hd : 0 < d) : rnd true ((n : Int) * (n : Int) * (k : Int)) (d : Int) = if ((n * n * k % d : Nat) : Int) = 0 then ((n * n * k / d : Nat) : Int) else ((n * n * k / d : Nat) : Int) + 1 := by
  unfold rnd
  rw [if_pos rfl, ← Int.natCast_mul, ← Int.natCast_mul, neg_div hd, Int.neg_neg]
  exact up_law _ _
theorem disc_law (n : Nat) (up : Bool) : (if up then dhi n else dlo n) = if up then (if (((n * n * piN up) % 4000000000000000000 : Nat) : Int) = 0 then (((n * n * piN up) / 4000000000000000000 : Nat) : Int) else (((n * n * piN up) / 4000000000000000000 : Nat) : Int) + 1) else (((n * n * piN up) / 4000000000000000000 : Nat) : Int) := by
  have h1 := dlo_gen n (piN false) 4000000000000000000
  have h2 := dhi_gen n (piN true) 4000000000000000000 (by omega)
  have k1 : ((piN false : Nat) : Int) = 3141592653589793238 := by unfold piN; simp
  have k2 : ((piN true : Nat) : Int) = 3141592653589793239 := by unfold piN; simp
  have k3 : ((4000000000000000000 : Nat) : Int) = 4000000000000000000 := by omega
  rw [k1, k3] at h1
  rw [k2, k3] at h2
  cases up
  · rw [if_neg (by simp), if_neg (by simp)]
    exact h1
  · rw [if_pos rfl, if_pos rfl]
    exact h2
set_option maxHeartbeats 2000000 in
theorem disc_ok (n : Nat) (up : Bool) (w : World) (hn : n ≤ 100000) :
    Calls Tryz.prog 104 #[.int .u64 (n : Nat), .bool up] w fun e w' => e = .returned (.tuple #[.int .i64 (if up then dhi n else dlo n), .bool true]) ∧ Kp No w w' := by
  have hm : n * n ≤ 10000000000 := Nat.mul_le_mul hn hn
  obtain ⟨m, hmd⟩ : ∃ m, n * n = m := ⟨_, rfl⟩
  rw [hmd] at hm
  have hp1 : piN up ≤ 3141592653589793239 := by unfold piN; split <;> omega
  have hM : m * piN up ≤ 10000000000 * 3141592653589793239 := Nat.mul_le_mul hm hp1
  have hpI : ((piN up : Nat) : Int) = if up then 3141592653589793239 else 3141592653589793238 := by unfold piN; cases up <;> rfl
  have hres := disc_law n up
  rw [hmd] at hres
  rw [hres]
  have hmore : m * piN up / 18446744073709551616 < 4000000000000000000 := by omega
  have hdm := Nat.div_add_mod (m * piN up) 18446744073709551616
  have hlow := Nat.mod_lt (m * piN up) (show 0 < 18446744073709551616 by omega)
  have hqb : m * piN up / 4000000000000000000 < 4611686018427387904 := by omega
  have M1 := Lib.hid (fun w0 => Any.bits_Mul64 mul64 n n (by omega) (by omega) w0)
  have M2 := Lib.hid (fun w0 => Any.bits_Mul64 mul64 0 (piN up) (by omega) (by omega) w0)
  have M3 := Lib.hid (fun w0 => Any.bits_Mul64 mul64 m (piN up) (by omega) (by omega) w0)
  rw [Nat.mul_comm 18446744073709551616] at hdm
  rw [hmd, Nat.div_eq_of_lt (show m < 18446744073709551616 by omega), Nat.mod_eq_of_lt (show m < 18446744073709551616 by omega)] at M1
  rw [Nat.zero_mul, Nat.zero_div, Nat.zero_mod] at M2
  generalize m * piN up / 18446744073709551616 = mo at *
  generalize m * piN up % 18446744073709551616 = lw at *
  have D2 := Lib.hid (fun w0 => div_any mo lw 4000000000000000000 w0 hmore hlow (by omega))
  rw [hdm] at D2
  generalize m * piN up / 4000000000000000000 = q at *
  generalize m * piN up % 4000000000000000000 = r at *
  have D1 : Hid (∀ w0, Calls Tryz.prog 146 #[.int .u64 0, .int .u64 (mo : Nat), .int .u64 4000000000000000000] w0 fun e w' => e = .returned (.tuple #[.int .u64 0, .int .u64 (mo : Nat)]) ∧ Kp No w0 w') := by
    refine Lib.hid fun w0 => ?_
    have h := div_any 0 mo 4000000000000000000 w0 (by omega) (by omega) (by omega)
    have e1 : (0 * 18446744073709551616 + mo) / 4000000000000000000 = 0 := by omega
    have e2 : (0 * 18446744073709551616 + mo) % 4000000000000000000 = mo := by omega
    rw [e1, e2] at h
    exact h
  have A1 : Hid (∀ w0, (callFunc 145 #[.int .u64 0, .int .u64 (mo : Nat), .int .u64 0]).run Tryz.prog w0 = .ok (.value (.tuple #[.int .u64 (mo : Nat), .int .u64 0])) w0) := by
    refine Lib.hid fun w0 => ?_
    have h := Any7.bits_Add64 add64 0 mo 0 (by omega) w0
    have e1 : (0 + mo + 0) / 18446744073709551616 = 0 := by omega
    have e2 : (0 + mo + 0) % 18446744073709551616 = mo := by omega
    rw [e1, e2] at h
    exact h
  exact disc_parts up n m (piN up : Nat) 4000000000000000000 mo lw q r w hpI rfl M1 M2 M3 D1 D2 A1 (by omega) (by omega)
end Go.Proofs.YtlieijnhaolnhaaGreat

namespace Go.Proofs.YtlieijnhaolnhaaGreat
open Go.RowKit Go.Kq

set_option maxHeartbeats 2000000 in
theorem power_parts (n s : Int) (w : World) (h0 : 0 ≤ n) (h1 : n < 4294967296) (hs : n < 2 → s = n)
    (M1 : Hid (∀ w0, Calls Tryz.prog 143 #[.int .u64 1, .int .u64 n] w0 fun e w' => e = .returned (.tuple #[.int .u64 0, .int .u64 n]) ∧ w' = w0))
    (M2 : Hid (∀ w0, Calls Tryz.prog 143 #[.int .u64 n, .int .u64 n] w0 fun e w' => e = .returned (.tuple #[.int .u64 0, .int .u64 s]) ∧ w' = w0)) :
    Calls Tryz.prog 103 #[.int .u64 n, .int .i64 2] w fun e w' => e = .returned (.tuple #[.int .u64 (if s ≤ 4611686018427387904 then s else 0), .bool (decide (s ≤ 4611686018427387904))]) ∧ w' = w := by
  by_cases hn : n < 2
  · have hs1 := hs hn
    subst hs1
    have hle : s ≤ 4611686018427387904 := by omega
    rw [if_pos hle, decide_eq_true hle]
    clear M1 M2 hs
    go_enter Tryz.func103, Tryz.ntmps103
    go_wp2_with fail
    exact bodyPost_ret (v := .tuple #[.int .u64 s, .bool true]) (by simp [results, Tryz.results103, go_sem]) rfl ⟨rfl, rfl⟩
  · clear hs
    have hn2 : 2 ≤ n := by omega
    go_enter Tryz.func103, Tryz.ntmps103
    go_wp2_with fail
    go_loop [6, 17] (fun o i => (o = .int .u64 1 ∧ i = .int .i64 0) ∨ (o = .int .u64 n ∧ i = .int .i64 1) ∨ (o = .int .u64 s ∧ i = .int .i64 2 ∧ s ≤ 4611686018427387904)) (fun _ i => 2 - (intOf i).toNat)
    case atStart => exact .inl ⟨rfl, rfl⟩
    case round =>
      rcases hrel with ⟨rfl, rfl⟩ | ⟨rfl, rfl⟩ | ⟨rfl, rfl, hle⟩
      · have hnM : n ≤ 4611686018427387904 := by omega
        go_wp2_with fail
        refine (M1.out _).mono ?_
        rintro e w1 ⟨rfl, hw⟩
        subst hw
        go_wp2_with fail
        go_round
        case rel => exact .inr (.inl ⟨rfl, rfl⟩)
        case measure => simp [intOf]
      · by_cases hle : s ≤ 4611686018427387904
        · go_wp2_with fail
          refine (M2.out _).mono ?_
          rintro e w1 ⟨rfl, hw⟩
          subst hw
          go_wp2_with fail
          go_round
          case rel => exact .inr (.inr ⟨rfl, rfl, hle⟩)
          case measure => simp [intOf]
        · have hd : decide (s ≤ 4611686018427387904) = false := decide_eq_false hle
          have hr : (if s ≤ 4611686018427387904 then s else 0) = 0 := if_neg hle
          have HD := Lib.hid (And.intro hd hr)
          clear hd hr
          go_wp2_with fail
          refine (M2.out _).mono ?_
          rintro e w1 ⟨rfl, hw⟩
          subst hw
          go_wp2_with fail
          exact bodyPost_ret (v := .tuple #[.int .u64 0, .bool false]) (by simp [results, Tryz.results103, go_sem]) rfl ⟨by first | rw [HD.out.1, HD.out.2] | rfl, rfl⟩
      · have hd : decide (s ≤ 4611686018427387904) = true := decide_eq_true hle
        have hr : (if s ≤ 4611686018427387904 then s else 0) = s := if_pos hle
        have HD := Lib.hid (And.intro hd hr)
        clear hd hr
        go_wp2_with fail
        exact bodyPost_ret (v := .tuple #[.int .u64 s, .bool true]) (by simp [results, Tryz.results103, go_sem]) rfl ⟨by first | rw [HD.out.1, HD.out.2] | rfl, rfl⟩
/-- power at k = 2, of less than 2^32. -/
theorem power_any (n : Nat) (w : World) (hn : n < 4294967296) :
    Calls Tryz.prog 103 #[.int .u64 (n : Nat), .int .i64 2] w fun e w' => e = .returned (.tuple #[.int .u64 (if ((n * n : Nat) : Int) ≤ 4611686018427387904 then ((n * n : Nat) : Int) else 0), .bool (decide (((n * n : Nat) : Int) ≤ 4611686018427387904))]) ∧ w' = w := by
  have hm : n * n < 18446744073709551616 := by
    have h := Nat.mul_le_mul (show n ≤ 4294967295 by omega) (show n ≤ 4294967295 by omega)
    omega
  have M1 := Lib.hid (fun w0 => Any.bits_Mul64 mul64 1 n (by omega) (by omega) w0)
  have M2 := Lib.hid (fun w0 => Any.bits_Mul64 mul64 n n (by omega) (by omega) w0)
  rw [Nat.one_mul, Nat.div_eq_of_lt (show n < 18446744073709551616 by omega), Nat.mod_eq_of_lt (show n < 18446744073709551616 by omega)] at M1
  rw [Nat.div_eq_of_lt hm, Nat.mod_eq_of_lt hm] at M2
  have hs : (n : Int) < 2 → ((n * n : Nat) : Int) = (n : Int) := by
    intro h
    have : n = 0 ∨ n = 1 := by omega
    rcases this with rfl | rfl <;> rfl
  exact power_parts n (n * n : Nat) w (by omega) (by omega) hs M1 M2
end Go.Proofs.YtlieijnhaolnhaaGreat

namespace Go.Proofs.YtlieijnhaolnhaaGreat
open Go.RowKit Go.Kq

set_option maxHeartbeats 2000000 in
theorem root_any (n : Nat) (w : World) (hn : n ≤ 4611686018427387904) :
    Calls Tryz.prog 102 #[.int .u64 (n : Nat), .int .i64 2] w fun e w' => e = .returned (.int .u64 ((isq n : Nat) : Int)) ∧ w' = w := by
  have hw1 : IntKind.u64.wrap ((n : Int) + 1) = ((n + 1 : Nat) : Int) := by rw [IntKind.wrap_u64]; omega
  obtain ⟨h0, hh0⟩ : ∃ h0, (if n + 1 ≤ 4294967296 then n + 1 else 4294967296) = h0 := ⟨_, rfl⟩
  have hh1 : 0 < h0 := by rw [← hh0]; split <;> omega
  have hh2 : h0 ≤ 4294967296 := by rw [← hh0]; split <;> omega
  have hh3 : n < h0 * h0 := by
    rw [← hh0]
    split
    · exact Nat.lt_of_lt_of_le (Nat.lt_succ_self n) (Nat.le_mul_of_pos_left _ (by omega))
    · omega
  have hmin : min ((n + 1 : Nat) : Int) 4294967296 = ((h0 : Nat) : Int) := by rw [← hh0]; split <;> omega
  have HH := Lib.hid (And.intro hh1 (And.intro hh2 hh3))
  have HM := Lib.hid hmin
  clear hh0 hh1 hh2 hh3 hmin
  go_enter Tryz.func102, Tryz.ntmps102
  go_wp2_with fail
  go_loop [5, 6] (fun lo hi => ∃ a b : Nat, lo = .int .u64 (a : Nat) ∧ hi = .int .u64 (b : Nat) ∧ a < b ∧ b ≤ 4294967296 ∧ a * a ≤ n ∧ n < b * b) (fun lo hi => (intOf hi - intOf lo).toNat)
  case atStart => exact ⟨0, h0, rfl, by rw [← HM.out, Int.natCast_add]; rfl, HH.out.1, HH.out.2.1, by omega, HH.out.2.2⟩
  case round =>
    obtain ⟨a, b, rfl, rfl, h1, h2, h3, h4⟩ := hrel
    clear HM HH
    obtain ⟨d, hd⟩ : ∃ d, b - a = d := ⟨_, rfl⟩
    obtain ⟨e, he⟩ : ∃ e, d / 2 = e := ⟨_, rfl⟩
    obtain ⟨m, hm⟩ : ∃ m, a + e = m := ⟨_, rfl⟩
    have s1 : (b : Int) - (a : Int) = (d : Int) := by omega
    have s2 : (d : Int) / 2 = (e : Int) := by omega
    have s3 : (a : Int) + (e : Int) = (m : Int) := by omega
    have w1 : IntKind.u64.wrap (d : Int) = (d : Int) := by rw [IntKind.wrap_u64]; omega
    have w2 : IntKind.u64.wrap (m : Int) = (m : Int) := by rw [IntKind.wrap_u64]; omega
    have w3 : IntKind.u64.wrap (e : Int) = (e : Int) := by rw [IntKind.wrap_u64]; omega
    by_cases hgt : (1 : Int) < (d : Int)
    · have hma : a < m := by omega
      have hmb : m < b := by omega
      have PW := fun w0 => power_any m w0 (by omega)
      by_cases hle : m * m ≤ n
      · have hc1 : ((m * m : Nat) : Int) ≤ 4611686018427387904 := by omega
        have hc2 : ((m * m : Nat) : Int) ≤ (n : Int) := by omega
        rw [if_pos hc1, decide_eq_true hc1] at PW
        obtain ⟨q, hq⟩ : ∃ q, m * m = q := ⟨_, rfl⟩
        rw [hq] at hc2 PW
        have P := Lib.hid PW
        have F := Lib.hid (And.intro hmb (And.intro h2 (And.intro hle (And.intro h4 hma))))
        clear PW hc1 hmb h1 h2 h3 h4 hle hq hd he hm hn
        go_wp2_with fail
        with_reducible refine (P.out _).mono ?_
        rintro e w3 ⟨rfl, hw⟩
        subst hw
        go_wp2_with fail
        go_round
        case rel => exact ⟨m, b, rfl, rfl, F.out.1, F.out.2.1, F.out.2.2.1, F.out.2.2.2.1⟩
        case measure => have := F.out; simp [intOf]; omega
      · by_cases hc1 : ((m * m : Nat) : Int) ≤ 4611686018427387904
        · have hc2 : ¬ ((m * m : Nat) : Int) ≤ (n : Int) := by omega
          rw [if_pos hc1, decide_eq_true hc1] at PW
          obtain ⟨q, hq⟩ : ∃ q, m * m = q := ⟨_, rfl⟩
          have F := Lib.hid (And.intro hma (And.intro (show m ≤ 4294967296 by omega) (And.intro h3 (And.intro (show n < m * m by omega) hmb))))
          rw [hq] at hc2 PW
          have P := Lib.hid PW
          clear PW hc1 hma hmb h1 h2 h3 h4 hle hq hd he hm hn
          go_wp2_with fail
          with_reducible refine (P.out _).mono ?_
          rintro e w3 ⟨rfl, hw⟩
          subst hw
          go_wp2_with fail
          go_round
          case rel => exact ⟨a, m, rfl, rfl, F.out.1, F.out.2.1, F.out.2.2.1, F.out.2.2.2.1⟩
          case measure => have := F.out; simp [intOf]; omega
        · rw [if_neg hc1, decide_eq_false hc1] at PW
          have F := Lib.hid (And.intro hma (And.intro (show m ≤ 4294967296 by omega) (And.intro h3 (And.intro (show n < m * m by omega) hmb))))
          have P := Lib.hid PW
          clear PW hc1 hma hmb h1 h2 h3 h4 hle hd he hm hn
          go_wp2_with fail
          with_reducible refine (P.out _).mono ?_
          rintro e w3 ⟨rfl, hw⟩
          subst hw
          go_wp2_with fail
          go_round
          case rel => exact ⟨a, m, rfl, rfl, F.out.1, F.out.2.1, F.out.2.2.1, F.out.2.2.2.1⟩
          case measure => have := F.out; simp [intOf]; omega
    · have hb1 : b = a + 1 := by omega
      have hr : a = isq n := isq_unique h3 (by rw [← hb1]; exact h4)
      have HR := Lib.hid hr
      clear hr h2 h3 h4
      go_wp2_with fail
      go_ret
      exact ⟨by rw [← HR.out]; rfl, rfl⟩
end Go.Proofs.YtlieijnhaolnhaaGreat

namespace Go.Proofs.YtlieijnhaolnhaaGreat
open Go.RowKit Go.Kq

set_option maxHeartbeats 2000000 in
theorem Root_ok (lo hi : Nat) (w : World) (h1 : lo ≤ hi) (h2 : hi ≤ 4611686018427387904) :
    Calls Tryz.prog 66 #[ivV lo hi, .int .i64 2] w fun e w' => e = .returned (ieV ((isq lo : Nat), (csq hi : Nat), 0)) ∧ Kp No w w' := by
  have hck : ckE [((lo : Int), (hi : Int))] = 0 := by
    unfold ckE
    have f1 : fits (lo : Int) = true := by unfold fits M62; simp; omega
    have f2 : fits (hi : Int) = true := by unfold fits M62; simp; omega
    rw [if_pos (by intro x hx; simp at hx; subst hx; exact ⟨f1, f2⟩), if_pos (by intro x hx; simp at hx; subst hx; simpa using h1)]
  have HCK := Lib.hid (fun g w0 hc => check_any [((lo : Int), (hi : Int))] g 0 1 1 w0 rfl (by omega) hc)
  rw [hck] at HCK
  have RA := Lib.hid (fun w0 => root_any lo w0 (by omega))
  have RB := Lib.hid (fun w0 => root_any hi w0 h2)
  obtain ⟨i1, i2⟩ := isq_spec hi
  obtain ⟨j1, j2⟩ := isq_spec lo
  have hrb : isq hi < 4294967296 := by
    rcases Nat.lt_or_ge (isq hi) 4294967296 with h | h
    · exact h
    · have := Nat.mul_le_mul h h
      omega
  have hra : isq lo < 4294967296 := Nat.lt_of_le_of_lt (isq_mono h1) hrb
  have PB := fun w0 => power_any (isq hi) w0 hrb
  have hc1 : ((isq hi * isq hi : Nat) : Int) ≤ 4611686018427387904 := by omega
  rw [if_pos hc1, decide_eq_true hc1] at PB
  have hcs : ((csq hi : Nat) : Int) = if ((isq hi * isq hi : Nat) : Int) < (hi : Int) then ((isq hi : Nat) : Int) + 1 else ((isq hi : Nat) : Int) := by
    unfold csq
    by_cases h : isq hi * isq hi < hi
    · rw [if_pos h, if_pos (by omega)]
      omega
    · rw [if_neg h, if_neg (by omega)]
  rw [hcs]
  generalize isq hi * isq hi = sq at *
  have hlo : (0 : Int) ≤ (lo : Int) := by omega
  have hhi : (0 : Int) ≤ (hi : Int) := by omega
  have hlo2 : (lo : Int) ≤ 4611686018427387904 := by omega
  have hhi2 : (hi : Int) ≤ 4611686018427387904 := by omega
  have ha : ((isq lo : Nat) : Int) < 4294967296 := by omega
  have hb : ((isq hi : Nat) : Int) < 4294967296 := by omega
  have ha0 : (0 : Int) ≤ ((isq lo : Nat) : Int) := by omega
  have hb0 : (0 : Int) ≤ ((isq hi : Nat) : Int) := by omega
  clear hck h1 h2 i1 i2 j1 j2 hra hrb hc1 hcs
  generalize ((isq lo : Nat) : Int) = a at *
  generalize ((isq hi : Nat) : Int) = b at *
  generalize ((sq : Nat) : Int) = s at *
  generalize ((lo : Nat) : Int) = x at *
  generalize ((hi : Nat) : Int) = y at *
  have PB := Lib.hid PB
  have wx : IntKind.u64.wrap x = x := by rw [IntKind.wrap_u64]; omega
  have wy : IntKind.u64.wrap y = y := by rw [IntKind.wrap_u64]; omega
  have wb1 : IntKind.u64.wrap (b + 1) = b + 1 := by rw [IntKind.wrap_u64]; omega
  have wa : IntKind.i64.wrap a = a := by rw [IntKind.wrap_i64]; omega
  have wb : IntKind.i64.wrap b = b := by rw [IntKind.wrap_i64]; omega
  have wb2 : IntKind.i64.wrap (b + 1) = b + 1 := by rw [IntKind.wrap_i64]; omega
  have hx0 : ¬ x < 0 := by omega
  clear hlo hlo2 hhi hhi2 ha hb ha0 hb0
  simp only [ieV, ivV]
  obtain ⟨t, ht⟩ : ∃ t, (if s < y then b + 1 else b) = t := ⟨_, rfl⟩
  rw [ht]
  by_cases hs : s < y
  · rw [if_pos hs] at ht
    subst ht
    go_enter Tryz.func66, Tryz.ntmps66
    go_wp2_with fail
    refine (HCK.out _ _ (ck1_cells _ _ _ _ (by go_simp) (by go_simp))).mono ?_
    rintro e w1 ⟨rfl, hk⟩
    obtain ⟨c0, c1, _, _⟩ := two_cells (hk.heap (((Kp.alloc No _ _).tr (Kp.alloc No _ _)).heap (at_new (n := w.heap.size) rfl) id) id)
    obtain ⟨r0, r1, z0, z1⟩ := two_cells (hk.heap ((Kp.alloc No _ _).heap (at_new (n := w.heap.size + 1) (by simp)) id) id)
    have KP := ((Kp.alloc No w _).tr ((Kp.alloc No _ _).tr (Kp.alloc No _ _))).tr hk
    go_wp2_with fail
    with_reducible refine (RB.out _).mono ?_
    rintro e w2 ⟨rfl, hw⟩
    subst hw
    go_wp2_with fail
    with_reducible refine (PB.out _).mono ?_
    rintro e w2 ⟨rfl, hw⟩
    subst hw
    go_wp2_with fail
    with_reducible refine (RA.out _).mono ?_
    rintro e w2 ⟨rfl, hw⟩
    subst hw
    go_wp2_with fail
    exact bodyPost_ret (v := .tuple #[.agg #[.int .i64 a, .int .i64 (b + 1)], .int .i64 0]) (by simp [results, Tryz.results66, go_sem, r0, r1]) rfl ⟨rfl, kp_set2 KP (by omega)⟩
  · rw [if_neg hs] at ht
    subst ht
    go_enter Tryz.func66, Tryz.ntmps66
    go_wp2_with fail
    refine (HCK.out _ _ (ck1_cells _ _ _ _ (by go_simp) (by go_simp))).mono ?_
    rintro e w1 ⟨rfl, hk⟩
    obtain ⟨c0, c1, _, _⟩ := two_cells (hk.heap (((Kp.alloc No _ _).tr (Kp.alloc No _ _)).heap (at_new (n := w.heap.size) rfl) id) id)
    obtain ⟨r0, r1, z0, z1⟩ := two_cells (hk.heap ((Kp.alloc No _ _).heap (at_new (n := w.heap.size + 1) (by simp)) id) id)
    have KP := ((Kp.alloc No w _).tr ((Kp.alloc No _ _).tr (Kp.alloc No _ _))).tr hk
    go_wp2_with fail
    with_reducible refine (RB.out _).mono ?_
    rintro e w2 ⟨rfl, hw⟩
    subst hw
    go_wp2_with fail
    with_reducible refine (PB.out _).mono ?_
    rintro e w2 ⟨rfl, hw⟩
    subst hw
    go_wp2_with fail
    with_reducible refine (RA.out _).mono ?_
    rintro e w2 ⟨rfl, hw⟩
    subst hw
    go_wp2_with fail
    exact bodyPost_ret (v := .tuple #[.agg #[.int .i64 a, .int .i64 b], .int .i64 0]) (by simp [results, Tryz.results66, go_sem, r0, r1]) rfl ⟨rfl, kp_set2 KP (by omega)⟩
end Go.Proofs.YtlieijnhaolnhaaGreat

namespace Go.Proofs.YtlieijnhaolnhaaGreat
open Go.RowKit Go.Kq

set_option maxHeartbeats 2000000 in
theorem Disc_ok (lo hi : Nat) (w : World) (h1 : lo ≤ hi) (h2 : hi ≤ 100000) :
    Calls Tryz.prog 67 #[ivV lo hi] w fun e w' => e = .returned (ieV (dlo lo, dhi hi, 0)) ∧ Kp No w w' := by
  have hck : ckE [((lo : Int), (hi : Int))] = 0 := by
    unfold ckE
    have f1 : fits (lo : Int) = true := by unfold fits M62; simp; omega
    have f2 : fits (hi : Int) = true := by unfold fits M62; simp; omega
    rw [if_pos (by intro x hx; simp at hx; subst hx; exact ⟨f1, f2⟩), if_pos (by intro x hx; simp at hx; subst hx; simpa using h1)]
  have HCK := Lib.hid (fun g w0 hc => check_any [((lo : Int), (hi : Int))] g 0 1 1 w0 rfl (by omega) hc)
  rw [hck] at HCK
  have d1 := fun w0 => disc_ok lo false w0 (by omega)
  have d2 := fun w0 => disc_ok hi true w0 (by omega)
  simp only [Bool.false_eq_true, if_false, if_true] at d1 d2
  generalize dlo (lo : Int) = a at *
  generalize dhi (hi : Int) = b at *
  have hlo : (0 : Int) ≤ (lo : Int) := by omega
  have hlo2 : (lo : Int) ≤ 100000 := by omega
  have hhi : (0 : Int) ≤ (hi : Int) := by omega
  have hhi2 : (hi : Int) ≤ 100000 := by omega
  clear hck h1 h2
  generalize ((lo : Nat) : Int) = x at *
  generalize ((hi : Nat) : Int) = y at *
  have wx : IntKind.u64.wrap x = x := by rw [IntKind.wrap_u64]; omega
  have wy : IntKind.u64.wrap y = y := by rw [IntKind.wrap_u64]; omega
  have hx0 : ¬ x < 0 := by omega
  have D1 := Lib.hid d1
  have D2 := Lib.hid d2
  clear d1 d2 hlo hlo2 hhi hhi2
  simp only [ieV, ivV]
  go_enter Tryz.func67, Tryz.ntmps67
  go_wp2_with fail
  refine (HCK.out _ _ (ck1_cells _ _ _ _ (by go_simp) (by go_simp))).mono ?_
  rintro e w1 ⟨rfl, hk⟩
  obtain ⟨c0, c1, _, _⟩ := two_cells (hk.heap (((Kp.alloc No _ _).tr (Kp.alloc No _ _)).heap (at_new (n := w.heap.size) rfl) id) id)
  have R := hk.heap ((Kp.alloc No _ _).heap (at_new (n := w.heap.size + 1) (by simp)) id) id
  have KP := ((Kp.alloc No w _).tr ((Kp.alloc No _ _).tr (Kp.alloc No _ _))).tr hk
  go_wp2_with fail
  refine (D1.out _).mono ?_
  rintro e w2 ⟨rfl, k2⟩
  have e1 := k2.cell c1 id
  go_wp2_with fail
  refine (D2.out _).mono ?_
  rintro e w3 ⟨rfl, k3⟩
  obtain ⟨r0, r1, z0, z1⟩ := two_cells ((k2.tr k3).heap R id)
  go_wp2_with fail
  exact bodyPost_ret (v := .tuple #[.agg #[.int .i64 a, .int .i64 b], .int .i64 0]) (by simp [results, Tryz.results67, go_sem, r0, r1]) rfl ⟨rfl, kp_set2 (KP.tr (k2.tr k3)) (by omega)⟩
end Go.Proofs.YtlieijnhaolnhaaGreat
