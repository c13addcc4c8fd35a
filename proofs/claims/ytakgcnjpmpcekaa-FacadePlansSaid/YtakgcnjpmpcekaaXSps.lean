/- spans: Scale. -/
import Derived.Deep.RegionHeld3
import Derived.Test.YtakgcnjpmpcekaaXSpn
namespace Go.Proofs.Ytakgcnjpmpcekaa
open Go.RowKit Go.Kq

theorem ck1_cells (w0 : World) (g : Nat) (lo hi : Int) (h0 : w0.cell? ⟨g, 0, none⟩ = some (.int .i64 lo)) (h1 : w0.cell? ⟨g, 1, none⟩ = some (.int .i64 hi)) : ∀ (k : Nat) (x : Int × Int), [(lo, hi)][k]? = some x → w0.cell? ⟨g, 0 + k * 2, none⟩ = some (.int .i64 x.1) ∧ w0.cell? ⟨g, 0 + k * 2 + 1, none⟩ = some (.int .i64 x.2) := by
  intro k x hx
  match k, hx with
  | 0, hx => simp at hx; subst hx; exact ⟨h0, h1⟩
  | k + 1, hx => simp at hx
theorem span_two (den : Nat) (x y : Int) (g : Nat) (w : World) (hd : 0 < den) (hd2 : den < 18446744073709551616)
    (h : w.cell? ⟨g, 0, none⟩ = some (.bool (lgP x).1) ∧ w.cell? ⟨g, 1, none⟩ = some (.int .u64 (lgP x).2.1) ∧ w.cell? ⟨g, 2, none⟩ = some (.int .u64 (lgP x).2.2))
    (h' : w.cell? ⟨g, 3, none⟩ = some (.bool (lgP y).1) ∧ w.cell? ⟨g, 4, none⟩ = some (.int .u64 (lgP y).2.1) ∧ w.cell? ⟨g, 5, none⟩ = some (.int .u64 (lgP y).2.2)) :
    Calls Try.prog 73 #[.int .u64 (den : Nat), .slice (some ⟨g, 0, none⟩) 2 2] w fun e w' => e = .returned (ieV (spanV den x [y])) ∧ Kp No w w' := by
  refine span_any den x [y] g 0 1 2 w hd hd2 rfl (by omega) (by omega) (by omega) (by omega) ?_
  intro k v hx
  match k, hx with
  | 0, hx => simp at hx; subst hx; exact ⟨h.1, h.2.1, h.2.2⟩
  | 1, hx => simp at hx; subst hx; exact ⟨h'.1, h'.2.1, h'.2.2⟩
  | k + 2, hx => simp at hx
set_option maxHeartbeats 4000000 in

theorem scale_ok (lo hi num : Int) (den : Nat) (w : World) (hck : ckE [(lo, hi)] = 0) (hd : 0 < den) (hdf : fits (den : Int) = true) (hnf : fits num = true) :
    Calls Try.prog 59 #[ivV lo hi, .int .i64 num, .int .i64 (den : Nat)] w fun e w' => e = .returned (ieV (spanV (den : Int) (lo * num) [hi * num])) ∧ Kp No w w' := by
  have hbd := ck_fits hck (lo, hi) (by simp)
  have l1 := fits_bounds hbd.1
  have l2 := fits_bounds hbd.2
  have l3 := fits_bounds hnf
  have l4 := fits_bounds hdf
  simp only at l1 l2 l3 l4
  have HCK := Lib.hid (fun g w0 hc => check_any [(lo, hi)] g 0 1 1 w0 rfl (by omega) hc)
  rw [hck] at HCK
  have hwd : IntKind.u64.wrap (den : Int) = (den : Int) := by rw [IntKind.wrap_u64]; omega
  have T1 := Lib.hid (fun w0 => times_any lo num w0 (by omega) (by omega) (by omega) (by omega))
  have T2 := Lib.hid (fun w0 => times_any hi num w0 (by omega) (by omega) (by omega) (by omega))
  have SP := Lib.hid (fun g w0 h h' => span_two den (lo * num) (hi * num) g w0 hd (by omega) h h')
  generalize spanV (den : Int) (lo * num) [hi * num] = sv at *
  simp only [lgV_p] at T1 T2
  generalize lgP (lo * num) = p1 at *
  generalize lgP (hi * num) = p2 at *
  obtain ⟨p11, p12, p13⟩ := p1
  obtain ⟨p21, p22, p23⟩ := p2
  simp only [p3V] at T1 T2 SP
  have HN1 := Lib.hid (number_any (den : Int))
  have HN2 := Lib.hid (number_any num)
  rw [hdf] at HN1
  rw [hnf] at HN2
  have hd1 : ¬ (den : Int) < 1 := by omega
  clear hbd l1 l2 l3 l4 hck hdf hnf
  obtain ⟨v1, v2, v3⟩ := sv
  simp only [ieV, ivV] at SP ⊢
  go_enter Try.func59, Try.ntmps59
  go_wp2_with fail
  refine (HCK.out _ _ (ck1_cells _ _ _ _ (by go_simp) (by go_simp))).mono ?_
  rintro e w1 ⟨rfl, hk⟩
  have q0 := hk.heap (((Kp.alloc No _ _).tr (Kp.alloc No _ _)).heap (at_new (n := w.heap.size) rfl) id) id
  have q1 := hk.heap ((Kp.alloc No _ _).heap (at_new (n := w.heap.size + 1) (by simp)) id) id
  obtain ⟨c0, c1, _, _⟩ := two_cells q0
  obtain ⟨r0, r1, z0, z1⟩ := two_cells q1
  have KP := ((Kp.alloc No w _).tr ((Kp.alloc No _ _).tr (Kp.alloc No _ _))).tr hk
  go_wp2_with fail
  refine (HN1.out _).mono ?_
  rintro e w2 ⟨rfl, hw2⟩
  subst hw2
  go_wp2_with fail
  refine (HN2.out _).mono ?_
  rintro e w2 ⟨rfl, hw2⟩
  subst hw2
  go_wp2_with fail
  go_region_held3 (fun w' => w'.cell? ⟨w.heap.size, 0, none⟩ = some (.int .i64 lo) ∧ w'.cell? ⟨w.heap.size, 1, none⟩ = some (.int .i64 hi)) (first | exact ⟨c0, c1⟩ | go_keep)
    ((first | (go_at_call 74; with_reducible refine (T1.out _).mono ?_; rintro e w3 ⟨rfl, k3⟩; have L3 := Lib.hid ((Kp.drew No _).tr k3); have c0 := L3.out.cell c0 (fun h => h); have c1 := L3.out.cell c1 (fun h => h); clear k3) | (go_at_call 74; with_reducible refine (T2.out _).mono ?_; rintro e w4 ⟨rfl, k4⟩; have L4 := Lib.hid (L3.out.tr k4); have c0 := k4.cell c0 (fun h => h); have c1 := k4.cell c1 (fun h => h); clear k4) | (go_at_call 73; refine (SP.out _ _ ⟨by go_simp, by go_simp, by go_simp⟩ ⟨by go_simp, by go_simp, by go_simp⟩).mono ?_; rintro e w5 ⟨rfl, k5⟩; have L5 := Lib.hid (L4.out.tr ((Kp.alloc No _ _).tr k5)); have c0 := k5.cell (a := ⟨w.heap.size, 0, none⟩) (v := .int .i64 lo) (by go_simp) (fun h => h); have c1 := k5.cell (a := ⟨w.heap.size, 1, none⟩) (v := .int .i64 hi) (by go_simp) (fun h => h); have z0 := (L5.out.frozen (World.block_lt_of_cell? _ _ r0) id).trans z0; have z1 := (L5.out.frozen (World.block_lt_of_cell? _ _ r1) id).trans z1; have r0 := L5.out.cell r0 id; have r1 := L5.out.cell r1 id; clear k5)))
  go_wp2_with fail
  exact bodyPost_ret (v := .tuple #[.agg #[.int .i64 v1, .int .i64 v2], .int .i64 v3]) (by simp [results, Try.results59, go_sem, r0, r1]) rfl ⟨rfl, kp_set2 (KP.tr L5.out) (by omega)⟩
end Go.Proofs.Ytakgcnjpmpcekaa
