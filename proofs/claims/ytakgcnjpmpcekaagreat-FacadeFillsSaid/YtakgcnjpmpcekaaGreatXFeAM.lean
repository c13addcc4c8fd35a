/- spans: Scale. · Chapter 24: the program's Feet. -/
import Derived.Deep.RegionHeld3
import Derived.Test.YtakgcnjpmpcekaaGreatXSpn
import Derived.Test.YtakgcnjpmpcekaaGreatXFiA
namespace Go.Proofs.YtakgcnjpmpcekaaGreat
open Go.RowKit Go.Kq

theorem ck1_cells (w0 : World) (g : Nat) (lo hi : Int) (h0 : w0.cell? ⟨g, 0, none⟩ = some (.int .i64 lo)) (h1 : w0.cell? ⟨g, 1, none⟩ = some (.int .i64 hi)) : ∀ (k : Nat) (x : Int × Int), [(lo, hi)][k]? = some x → w0.cell? ⟨g, 0 + k * 2, none⟩ = some (.int .i64 x.1) ∧ w0.cell? ⟨g, 0 + k * 2 + 1, none⟩ = some (.int .i64 x.2) := by
  intro k x hx
  match k, hx with
  | 0, hx => simp at hx; subst hx; exact ⟨h0, h1⟩
  | k + 1, hx => simp at hx
theorem span_two (den : Nat) (x y : Int) (g : Nat) (w : World) (hd : 0 < den) (hd2 : den < 18446744073709551616)
    (h : w.cell? ⟨g, 0, none⟩ = some (.bool (lgP x).1) ∧ w.cell? ⟨g, 1, none⟩ = some (.int .u64 (lgP x).2.1) ∧ w.cell? ⟨g, 2, none⟩ = some (.int .u64 (lgP x).2.2))
    (h' : w.cell? ⟨g, 3, none⟩ = some (.bool (lgP y).1) ∧ w.cell? ⟨g, 4, none⟩ = some (.int .u64 (lgP y).2.1) ∧ w.cell? ⟨g, 5, none⟩ = some (.int .u64 (lgP y).2.2)) :
    Calls Tryz.prog 41 #[.int .u64 (den : Nat), .slice (some ⟨g, 0, none⟩) 2 2] w fun e w' => e = .returned (ieV (spanV den x [y])) ∧ Kp No w w' := by
  refine span_any den x [y] g 0 1 2 w hd hd2 rfl (by omega) (by omega) (by omega) (by omega) ?_
  intro k v hx
  match k, hx with
  | 0, hx => simp at hx; subst hx; exact ⟨h.1, h.2.1, h.2.2⟩
  | 1, hx => simp at hx; subst hx; exact ⟨h'.1, h'.2.1, h'.2.2⟩
  | k + 2, hx => simp at hx
set_option maxHeartbeats 4000000 in

theorem scale_ok (lo hi num : Int) (den : Nat) (w : World) (hck : ckE [(lo, hi)] = 0) (hd : 0 < den) (hdf : fits (den : Int) = true) (hnf : fits num = true) :
    Calls Tryz.prog 23 #[ivV lo hi, .int .i64 num, .int .i64 (den : Nat)] w fun e w' => e = .returned (ieV (spanV (den : Int) (lo * num) [hi * num])) ∧ Kp No w w' := by
  have hbd := ck_fits hck (lo, hi) (by simp)
  have l1 := fits_bounds hbd.1
  have l2 := fits_bounds hbd.2
  have l3 := fits_bounds hnf
  have l4 := fits_bounds hdf
  simp only at l1 l2 l3 l4
  have HCK := Lib.hid (fun g w0 hc => check_any [(lo, hi)] g 0 1 1 w0 rfl (by omega) hc)
  rw [hck] at HCK
  have hwd : IntKind.u64.wrap (den : Int) = (den : Int) := by rw [IntKind.wrap_u64]; omega
  have T1 := Lib.hid (fun w0 => times_any lo num w0 (by omega) (by omega) (by omega) (by omega))
  have T2 := Lib.hid (fun w0 => times_any hi num w0 (by omega) (by omega) (by omega) (by omega))
  have SP := Lib.hid (fun g w0 h h' => span_two den (lo * num) (hi * num) g w0 hd (by omega) h h')
  generalize spanV (den : Int) (lo * num) [hi * num] = sv at *
  simp only [lgV_p] at T1 T2
  generalize lgP (lo * num) = p1 at *
  generalize lgP (hi * num) = p2 at *
  obtain ⟨p11, p12, p13⟩ := p1
  obtain ⟨p21, p22, p23⟩ := p2
  simp only [p3V] at T1 T2 SP
  have HN1 := Lib.hid (number_any (den : Int))
  have HN2 := Lib.hid (number_any num)
  rw [hdf] at HN1
  rw [hnf] at HN2
  have hd1 : ¬ (den : Int) < 1 := by omega
  clear hbd l1 l2 l3 l4 hck hdf hnf
  obtain ⟨v1, v2, v3⟩ := sv
  simp only [ieV, ivV] at SP ⊢
  go_enter Tryz.func23, Tryz.ntmps23
  go_wp2_with fail
  refine (HCK.out _ _ (ck1_cells _ _ _ _ (by go_simp) (by go_simp))).mono ?_
  rintro e w1 ⟨rfl, hk⟩
  have q0 := hk.heap (((Kp.alloc No _ _).tr (Kp.alloc No _ _)).heap (at_new (n := w.heap.size) rfl) id) id
  have q1 := hk.heap ((Kp.alloc No _ _).heap (at_new (n := w.heap.size + 1) (by simp)) id) id
  obtain ⟨c0, c1, _, _⟩ := two_cells q0
  obtain ⟨r0, r1, z0, z1⟩ := two_cells q1
  have KP := ((Kp.alloc No w _).tr ((Kp.alloc No _ _).tr (Kp.alloc No _ _))).tr hk
  go_wp2_with fail
  refine (HN1.out _).mono ?_
  rintro e w2 ⟨rfl, hw2⟩
  subst hw2
  go_wp2_with fail
  refine (HN2.out _).mono ?_
  rintro e w2 ⟨rfl, hw2⟩
  subst hw2
  go_wp2_with fail
  go_region_held3 (fun w' => w'.cell? ⟨w.heap.size, 0, none⟩ = some (.int .i64 lo) ∧ w'.cell? ⟨w.heap.size, 1, none⟩ = some (.int .i64 hi)) (first | exact ⟨c0, c1⟩ | go_keep)
    ((first | (go_at_call 42; with_reducible refine (T1.out _).mono ?_; rintro e w3 ⟨rfl, k3⟩; have L3 := Lib.hid ((Kp.drew No _).tr k3); have c0 := L3.out.cell c0 (fun h => h); have c1 := L3.out.cell c1 (fun h => h); clear k3) | (go_at_call 42; with_reducible refine (T2.out _).mono ?_; rintro e w4 ⟨rfl, k4⟩; have L4 := Lib.hid (L3.out.tr k4); have c0 := k4.cell c0 (fun h => h); have c1 := k4.cell c1 (fun h => h); clear k4) | (go_at_call 41; refine (SP.out _ _ ⟨by go_simp, by go_simp, by go_simp⟩ ⟨by go_simp, by go_simp, by go_simp⟩).mono ?_; rintro e w5 ⟨rfl, k5⟩; have L5 := Lib.hid (L4.out.tr ((Kp.alloc No _ _).tr k5)); have c0 := k5.cell (a := ⟨w.heap.size, 0, none⟩) (v := .int .i64 lo) (by go_simp) (fun h => h); have c1 := k5.cell (a := ⟨w.heap.size, 1, none⟩) (v := .int .i64 hi) (by go_simp) (fun h => h); have z0 := (L5.out.frozen (World.block_lt_of_cell? _ _ r0) id).trans z0; have z1 := (L5.out.frozen (World.block_lt_of_cell? _ _ r1) id).trans z1; have r0 := L5.out.cell r0 id; have r1 := L5.out.cell r1 id; clear k5)))
  go_wp2_with fail
  exact bodyPost_ret (v := .tuple #[.agg #[.int .i64 v1, .int .i64 v2], .int .i64 v3]) (by simp [results, Tryz.results23, go_sem, r0, r1]) rfl ⟨rfl, kp_set2 (KP.tr L5.out) (by omega)⟩
end Go.Proofs.YtakgcnjpmpcekaaGreat

namespace Go.Proofs.YtakgcnjpmpcekaaGreat
open Go.RowKit Go.Kq

theorem fet_span {p n D : Int} (h0 : 0 ≤ p) (h1 : p ≤ D) (hD : 1 ≤ D) (hn : -12000000 ≤ n ∧ n ≤ 12000000) : spanV D (p * n) [p * n] = (p * n / D, -((-(p * n)) / D), 0) ∧ -12000000 ≤ p * n / D ∧ p * n / D ≤ 12000000 := by
  have a1 : p * n ≤ 12000000 * D := by
    have h := Int.mul_le_mul_of_nonneg_left hn.2 h0
    have h2 := Int.mul_le_mul_of_nonneg_left h1 (show (0 : Int) ≤ 12000000 by decide)
    omega
  have a2 : -12000000 * D ≤ p * n := by
    have h := Int.mul_le_mul_of_nonneg_left hn.1 h0
    have h2 := Int.mul_le_mul_of_nonneg_left h1 (show (0 : Int) ≤ 12000000 by decide)
    omega
  have b1 : p * n / D ≤ 12000000 := Int.ediv_le_of_le_mul (by omega) a1
  have b2 : -12000000 ≤ p * n / D := Int.le_ediv_of_mul_le (by omega) a2
  have b3 : (-(p * n)) / D ≤ 12000000 := Int.ediv_le_of_le_mul (by omega) (by omega)
  have b4 : -12000000 ≤ (-(p * n)) / D := Int.le_ediv_of_mul_le (by omega) (by omega)
  refine ⟨?_, b2, b1⟩
  generalize p * n = v at *
  have e1 : minL v [v] = v := by simp only [minL]; omega
  have e2 : maxL v [v] = v := by simp only [maxL]; omega
  unfold spanV
  rw [e1, e2]
  have d : rnd false v D = v / D := rfl
  have u : rnd true v D = -((-v) / D) := rfl
  have f1 : fits (rnd false v D) = true := by rw [d]; unfold fits M62; simp; omega
  have f2 : fits (rnd true v D) = true := by rw [u]; unfold fits M62; simp; omega
  rw [f1, f2]
  rfl
/-- The row while it is filled. -/
def midF (f : Int → Int) (r : List Int) (j : Nat) : List Int := (r.take j).map f ++ List.replicate (r.length - j) 0
theorem midF_len (f : Int → Int) (r : List Int) (j : Nat) (h : j ≤ r.length) : (midF f r j).length = r.length := by
  unfold midF
  simp
  omega
theorem midF_set (f : Int → Int) (r : List Int) (j : Nat) (x : Int) (h : r[j]? = some x) : (midF f r j).set j (f x) = midF f r (j + 1) := by
  have hj : j < r.length := (List.getElem?_eq_some_iff.1 h).1
  unfold midF
  rw [show r.length - j = (r.length - (j + 1)) + 1 by omega]
  have h1 := mid_lo ((r.take j).map f) [] (0 : Int) (f x) (r.length - (j + 1)) j (by simp; omega)
  simp only [List.append_nil] at h1
  rw [h1, List.take_add_one, h]
  simp
theorem midF_end (f : Int → Int) (r : List Int) : midF f r r.length = r.map f := by
  unfold midF
  simp
theorem make_longs (m : Nat) (hm : m ≤ 100000) (w : World) : (Instr.makeSlice 22 (.int .i64 (m : Nat)) (.int .i64 (m : Nat))).run Tryz.prog w = .ok (.slice (some ⟨w.heap.size, 0, none⟩) m m) (w.alloc (.cells ((List.replicate m (Value.int .i64 0)).toArray) 2)) := by
  obtain ⟨i0, hi, hz0, hz1, hz2⟩ := info_parts infoI64
  have := run_make_flat w (fun x : Nat => [natV x]) 0 _ _ i0 _ 1 8 m Tryz.underlying22 hi hz0 hz1 hz2 (by decide) rfl rfl (by omega) (by omega)
  rw [this, List.flatMap_replicate]
  simp [natV]
def FetR (W : Int) (r : List Int) (b z : Int) (w : World) (e : Ending) (w' : World) : Prop := ∃ A c, e = .returned (.tuple #[.slice A (fetL W r b z).length c, .int .i64 (fetE W r b z)]) ∧ OwL w' w.heap.size (.slice A (fetL W r b z).length c) (fetL W r b z) ∧ Kp No w w'
theorem fet_err {W : Int} {r : List Int} {b z : Int} {w w' : World} (h : fetE W r b z ≠ 0) (k : Kp No w w') : FetR W r b z w (.returned (.tuple #[.slice none 0 0, .int .i64 (fetE W r b z)])) w' := by
  have h2 : fetL W r b z = [] := by unfold fetL; rw [if_neg h]
  refine ⟨none, 0, ?_, ?_, k⟩
  · rw [h2]
    rfl
  · rw [h2]
    exact World.ownsRow_nil _ _ _ _
theorem fetE_of {W : Int} {r : List Int} {b z : Int} {m : Nat} (hl : r.length = m) : fetE W r b z = if 60 < m then 3 else if oB W 1 10000000 || oB b 0 3000000 || oB z (-3000000) 3000000 || r.any (fun x => oB x 0 W) then 2 else 0 := by rw [← hl]; rfl
set_option maxHeartbeats 8000000 in
theorem Feet_any (W : Int) (R : Option Addr) (m cr : Nat) (r : List Int) (b z : Int) (w : World) (hR : RdI .i64 w R m r) (hm : m ≤ 100000) :
    Calls Tryz.prog 7 #[.int .i64 W, .slice R m cr, .int .i64 b, .int .i64 z] w (FetR W r b z w) := by
  have HE := Lib.hid (fetE_of (W := W) (b := b) (z := z) hR.1)
  obtain ⟨g, hg⟩ : ∃ g, g = w.heap.size := ⟨_, rfl⟩
  have hK1 : Kp No w (w.alloc (.cells #[.int .i64 W] 2)) := Kp.alloc _ _ _
  have hc1 : (w.alloc (.cells #[.int .i64 W] 2)).cell? ⟨g, 0, none⟩ = some (.int .i64 W) := by rw [hg]; go_simp
  by_cases h60 : 60 < m
  · have HEE := Lib.hid (show fetE W r b z = 3 by rw [HE.out, if_pos h60])
    have HK := Lib.hid hK1
    clear hR hK1 hc1 hg
    go_enter Tryz.func7, Tryz.ntmps7
    go_wp2_with fail
    refine bodyPost_ret (v := .tuple #[.slice none 0 0, .int .i64 3]) (by simp [results, Tryz.results7, go_sem]) rfl ?_
    have h := fet_err (W := W) (r := r) (b := b) (z := z) (by rw [HEE.out]; decide) HK.out
    rw [HEE.out] at h
    exact h
  have hm60 : m ≤ 60 := by omega
  have O1 := Lib.hid (fun w0 => outside_any W 1 10000000 w0)
  have O2 := Lib.hid (fun w0 => outside_any b 0 3000000 w0)
  have O3 := Lib.hid (fun w0 => outside_any z (-3000000) 3000000 w0)
  have CT := Lib.hid (fun (_ : Unit) => contains_feet (cv := .pointer (some ⟨g, 0, none⟩)) R m cr r (fun x => oB x 0 W) (w.alloc (.cells #[.int .i64 W] 2)) (hR.no hK1) (by omega) (fun v w' k => fetB_any v W g w' (k.cell hc1 id)))
  have HF := Lib.hid (show fetE W r b z = if oB W 1 10000000 || oB b 0 3000000 || oB z (-3000000) 3000000 || r.any (fun x => oB x 0 W) then 2 else 0 by rw [HE.out, if_neg h60])
  have HR := Lib.hid hR
  have HL := Lib.hid hR.1
  have HB1 : oB W 1 10000000 = false → 1 ≤ W ∧ W ≤ 10000000 := fun h => by unfold oB at h; simp at h; omega
  have HB2 : oB b 0 3000000 = false → 0 ≤ b ∧ b ≤ 3000000 := fun h => by unfold oB at h; simp at h; omega
  have HB3 : oB z (-3000000) 3000000 = false → -3000000 ≤ z ∧ z ≤ 3000000 := fun h => by unfold oB at h; simp at h; omega
  have HB4 : (r.any fun x => oB x 0 W) = false → ∀ x ∈ r, 0 ≤ x ∧ x ≤ W := fun h x hx => by
    have := List.any_eq_false.1 h x hx
    unfold oB at this
    simp only [Bool.or_eq_true, decide_eq_true_eq, not_or] at this
    omega
  have HKA := Lib.hid hK1
  have HC1 := Lib.hid hc1
  have HCW := Lib.hid hg
  subst hg
  clear hR hK1 hc1 HE h60
  generalize oB W 1 10000000 = o1 at *
  generalize oB b 0 3000000 = o2 at *
  generalize oB z (-3000000) 3000000 = o3 at *
  generalize (r.any fun x => oB x 0 W) = o4 at *
  cases o1
  rotate_left
  · have HEE := Lib.hid (show fetE W r b z = 2 by rw [HF.out]; rfl)
    clear HF HB1 HB2 HB3 HB4
    go_enter Tryz.func7, Tryz.ntmps7
    go_wp2_with fail
    with_reducible refine (O1.out _).mono ?_
    rintro e w1 ⟨rfl, hw⟩
    subst hw
    go_wp2_with fail
    refine bodyPost_ret (v := .tuple #[.slice none 0 0, .int .i64 2]) (by simp [results, Tryz.results7, go_sem]) rfl ?_
    have h := fet_err (W := W) (r := r) (b := b) (z := z) (by rw [HEE.out]; decide) HKA.out
    rw [HEE.out] at h
    exact h
  cases o2
  rotate_left
  · have HEE := Lib.hid (show fetE W r b z = 2 by rw [HF.out]; rfl)
    clear HF HB1 HB2 HB3 HB4
    go_enter Tryz.func7, Tryz.ntmps7
    go_wp2_with fail
    with_reducible refine (O1.out _).mono ?_
    rintro e w1 ⟨rfl, hw⟩
    subst hw
    go_wp2_with fail
    with_reducible refine (O2.out _).mono ?_
    rintro e w1 ⟨rfl, hw⟩
    subst hw
    go_wp2_with fail
    refine bodyPost_ret (v := .tuple #[.slice none 0 0, .int .i64 2]) (by simp [results, Tryz.results7, go_sem]) rfl ?_
    have h := fet_err (W := W) (r := r) (b := b) (z := z) (by rw [HEE.out]; decide) HKA.out
    rw [HEE.out] at h
    exact h
  cases o3
  rotate_left
  · have HEE := Lib.hid (show fetE W r b z = 2 by rw [HF.out]; rfl)
    clear HF HB1 HB2 HB3 HB4
    go_enter Tryz.func7, Tryz.ntmps7
    go_wp2_with fail
    with_reducible refine (O1.out _).mono ?_
    rintro e w1 ⟨rfl, hw⟩
    subst hw
    go_wp2_with fail
    with_reducible refine (O2.out _).mono ?_
    rintro e w1 ⟨rfl, hw⟩
    subst hw
    go_wp2_with fail
    with_reducible refine (O3.out _).mono ?_
    rintro e w1 ⟨rfl, hw⟩
    subst hw
    go_wp2_with fail
    refine bodyPost_ret (v := .tuple #[.slice none 0 0, .int .i64 2]) (by simp [results, Tryz.results7, go_sem]) rfl ?_
    have h := fet_err (W := W) (r := r) (b := b) (z := z) (by rw [HEE.out]; decide) HKA.out
    rw [HEE.out] at h
    exact h
  cases o4
  rotate_left
  · have HEE := Lib.hid (show fetE W r b z = 2 by rw [HF.out]; rfl)
    clear HF HB1 HB2 HB3 HB4
    go_enter Tryz.func7, Tryz.ntmps7
    go_wp2_with fail
    with_reducible refine (O1.out _).mono ?_
    rintro e w1 ⟨rfl, hw⟩
    subst hw
    go_wp2_with fail
    with_reducible refine (O2.out _).mono ?_
    rintro e w1 ⟨rfl, hw⟩
    subst hw
    go_wp2_with fail
    with_reducible refine (O3.out _).mono ?_
    rintro e w1 ⟨rfl, hw⟩
    subst hw
    go_wp2_with fail
    with_reducible refine (CT.out ()).mono ?_
    rintro e w2 ⟨rfl, k2⟩
    have HK2 := Lib.hid (HKA.out.tr k2)
    go_wp2_with fail
    refine bodyPost_ret (v := .tuple #[.slice none 0 0, .int .i64 2]) (by simp [results, Tryz.results7, go_sem]) rfl ?_
    have h := fet_err (W := W) (r := r) (b := b) (z := z) (by rw [HEE.out]; decide) HK2.out
    rw [HEE.out] at h
    exact h
  have HEE := Lib.hid (show fetE W r b z = 0 by rw [HF.out]; rfl)
  have HFL := Lib.hid (show fetL W r b z = r.map (fetX W b z) by unfold fetL; rw [if_pos HEE.out])
  have hb1 := HB1 rfl
  have hb2 := HB2 rfl
  have hb3 := HB3 rfl
  have HB := Lib.hid (HB4 rfl)
  clear HB1 HB2 HB3 HB4 HF
  have hmk := make_longs m (by omega)
  obtain ⟨D, hD⟩ : ∃ D, D = W * W := ⟨_, rfl⟩
  have hDe : W * W = D := hD.symm
  have hDb : 1 ≤ D ∧ D ≤ 100000000000000 := by
    have h1 := Int.mul_le_mul hb1.1 hb1.1 (by omega) (by omega)
    have h2 := Int.mul_le_mul hb1.2 hb1.2 (by omega) (by omega)
    omega
  obtain ⟨dn, hdn⟩ : ∃ dn : Nat, (dn : Int) = D := ⟨D.toNat, Int.toNat_of_nonneg (by omega)⟩
  have HFX := Lib.hid (show ∀ x P, x * (W - x) = P → fetX W b z x = b + P * (4 * z) / D by intro x P h; unfold fetX; rw [h, hDe])
  have HP := Lib.hid (show ∀ x, 0 ≤ x → x ≤ W → 0 ≤ x * (W - x) ∧ x * (W - x) ≤ D by
    intro x h0 h1
    refine ⟨Int.mul_nonneg h0 (by omega), ?_⟩
    rw [hD]
    exact Int.mul_le_mul h1 (by omega) (by omega) (by omega))
  have hdb : 0 < dn := by omega
  have SC := Lib.hid (fun (P : Int) (h : 0 ≤ P ∧ P ≤ D) w0 => scale_ok P P (4 * z) dn w0 (by
    unfold ckE
    rw [if_pos (by intro y hy; simp at hy; subst hy; unfold fits M62; simp; omega), if_pos (by intro y hy; simp at hy; subst hy; simp)]) hdb (by unfold fits M62; simp; omega) (by unfold fits M62; simp; omega))
  rw [hdn] at SC
  clear hD
  go_enter Tryz.func7, Tryz.ntmps7
  go_wp2_with fail
  with_reducible refine (O1.out _).mono ?_
  rintro e w1 ⟨rfl, hw⟩
  subst hw
  go_wp2_with fail
  with_reducible refine (O2.out _).mono ?_
  rintro e w1 ⟨rfl, hw⟩
  subst hw
  go_wp2_with fail
  with_reducible refine (O3.out _).mono ?_
  rintro e w1 ⟨rfl, hw⟩
  subst hw
  go_wp2_with fail
  with_reducible refine (CT.out ()).mono ?_
  rintro e w2 ⟨rfl, k2⟩
  have HK2 := Lib.hid (HKA.out.tr k2)
  have HC2 := Lib.hid (k2.cell HC1.out id)
  clear k2 CT O1 O2 O3
  go_wp2_with fail
  clear hmk
  obtain ⟨g2, hg2⟩ : ∃ g2, g2 = w2.heap.size := ⟨_, rfl⟩
  rw [← hg2]
  have HG2 := Lib.hid hg2
  clear hg2
  have HME := Lib.hid (midF_end (fetX W b z) r)
  have HML := Lib.hid (fun j h => midF_len (fetX W b z) r j h)
  have HMS := Lib.hid (fun j x h => midF_set (fetX W b z) r j x h)
  have HM0 := Lib.hid (show midF (fetX W b z) r 0 = List.replicate m 0 by unfold midF; rw [HL.out]; simp)
  rw [HL.out] at HME HML
  go_loopw [41] (fun i wr => ∃ j : Nat, j ≤ m ∧ i = .int .i64 (j : Nat) ∧ wr.ownsRow w2.heap.size 2 1 (.slice (some ⟨g2, 0, none⟩) m m) m ((midF (fetX W b z) r j).map (Value.int .i64)) ∧ Kp No w2 wr) (fun i _ => m - (intOf i).toNat)
  case atStart =>
    refine ⟨0, by omega, rfl, ?_, Kp.alloc _ _ _⟩
    rw [HM0.out, HG2.out]
    have h := own_made w2 (e := 2) (n := m) (s := 1) (base := w2.heap.size) (xs := List.replicate m (Value.int .i64 0)) (by simp) (Nat.le_refl _) (by unfold maxLen; omega)
    rw [List.map_replicate]
    exact h
  case round =>
    obtain ⟨j, hj, rfl, hown, hkp⟩ := hrel
    have HO := Lib.hid hown
    have HKP := Lib.hid hkp
    have HKW := Lib.hid (HK2.out.tr hkp)
    have c4 := hkp.cell HC2.out id
    have hgs : w.heap.size < w2.heap.size := World.block_lt_of_cell? _ _ HC2.out
    clear hown hkp
    by_cases hlt : j < m
    · obtain ⟨x, hx⟩ : ∃ x, r[j]? = some x := ⟨_, List.getElem?_eq_getElem (by rw [HL.out]; exact hlt)⟩
      obtain ⟨b0, o, rfl, hb0, hc⟩ := (HR.out.no HKW.out).2 j x hx
      have hx1 := HB.out x (List.mem_of_getElem? hx)
      have HMJ := Lib.hid (HMS.out j x hx)
      obtain ⟨P, hP⟩ : ∃ P, x * (W - x) = P := ⟨_, rfl⟩
      have hPb := HP.out x hx1.1 hx1.2
      rw [hP] at hPb
      have hfx := HFX.out x P hP
      have hsp := fet_span (p := P) (n := 4 * z) (D := D) hPb.1 hPb.2 hDb.1 (by omega)
      have SC1 := Lib.hid (SC.out P hPb)
      obtain ⟨hsp, hYb⟩ := hsp
      rw [hsp] at SC1
      generalize P * (4 * z) / D = Y at *
      generalize -((-(P * (4 * z))) / D) = Z at *
      simp only [ieV, ivV] at SC1
      clear hx hsp
      go_wp2_with fail
      with_reducible refine (SC1.out _).mono ?_
      rintro e w3 ⟨rfl, k3⟩
      have c4 := k3.cell c4 id
      have HK3 := Lib.hid k3
      have HO3 : (w3.alloc (.cells #[.int .i64 Y, .int .i64 Z] 53)).ownsRow w2.heap.size 2 1 (.slice (some ⟨g2, 0, none⟩) m m) m ((midF (fetX W b z) r j).map (Value.int .i64)) := own_kp HO.out (k3.tr (Kp.alloc _ _ _)) (fun _ _ => id)
      have HK4 : Kp No w2 (w3.alloc (.cells #[.int .i64 Y, .int .i64 Z] 53)) := (HKP.out.tr k3).tr (Kp.alloc _ _ _)
      have hcv : (w3.alloc (.cells #[.int .i64 Y, .int .i64 Z] 53)).cell? ⟨g2, j, none⟩ = some (.int .i64 ((midF (fetX W b z) r j)[j]'(by rw [HML.out j hj]; exact hlt))) := own_cell HO3 (by rw [List.getElem?_map, List.getElem?_eq_getElem (by rw [HML.out j hj]; exact hlt)]; rfl)
      have hfr := own_free HO3 j
      have n0 : (w3.alloc (.cells #[.int .i64 Y, .int .i64 Z] 53)).cell? ⟨w3.heap.size, 0, none⟩ = some (.int .i64 Y) := by go_simp
      have HS := Lib.hid (own_set HO3 j (.int .i64 (b + Y)))
      have HK5 := Lib.hid ((HK4.trans (kp_setOne _ g2 j (.int .i64 (b + Y)))) fun k hk e => by have e : k = g2 := e; have := HG2.out; omega)
      clear k3 hc hb0 HO3 HK4
      go_wp2_with fail
      go_roundw
      case rel =>
        refine ⟨j + 1, by omega, by go_num, ?_, HK5.out⟩
        have h := HS.out
        rw [← List.map_set, ← hfx, HMJ.out] at h
        rw [← hfx]
        exact h
      case measure => simp [intOf]; omega
    · obtain rfl : j = m := by omega
      go_wp2_with fail
      refine bodyPost_ret (v := .tuple #[.slice (some ⟨g2, 0, none⟩) j j, .int .i64 0]) (by simp [results, Tryz.results7, go_sem]) rfl ?_
      have hl : (fetL W r b z).length = j := by rw [HFL.out, List.length_map, HL.out]
      refine ⟨some ⟨g2, 0, none⟩, j, ?_, ?_, HKW.out⟩
      · rw [HEE.out, hl]
      · have ho := HO.out
        rw [HME.out] at ho
        rw [HFL.out] at hl ⊢
        unfold OwL
        rw [hl]
        exact own_mono ho (Nat.le_of_lt hgs)
end Go.Proofs.YtakgcnjpmpcekaaGreat
