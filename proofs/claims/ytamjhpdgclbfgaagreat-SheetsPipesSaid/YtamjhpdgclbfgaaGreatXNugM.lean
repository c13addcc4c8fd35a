/- Spans of fractions: the quotients of the ends: plain. · Chapter 09: what the reference's Foot computes: plain. · Spans of fractions: Pi: the walk. Printed by gen_nug.py. -/
import Derived.Test.YtamjhpdgclbfgaaGreatXNwGM
import Derived.Test.YtamjhpdgclbfgaaGreatXNud
import Derived.Test.YtamjhpdgclbfgaaGreatXNtxM
import Derived.Test.YtamjhpdgclbfgaaGreatXLibQuoFM
import Derived.Test.YtamjhpdgclbfgaaGreatXCspM
import Derived.Test.YtamjhpdgclbfgaaGreatXLibApRM
namespace Go.Proofs.YtamjhpdgclbfgaaGreat

/-- The four quotients of the ends. -/
def cornD (a b : Int × Int) : List Rat := [(a.1 : Rat) / (b.1 : Rat), (a.1 : Rat) / (b.2 : Rat), (a.2 : Rat) / (b.1 : Rat), (a.2 : Rat) / (b.2 : Rat)]
theorem cast_pos {d : Int} (h : 0 < d) : (0 : Rat) < (d : Rat) := Rat.intCast_lt_intCast.2 h
end Go.Proofs.YtamjhpdgclbfgaaGreat

namespace Go.Proofs.YtamjhpdgclbfgaaGreat
open Go.RowKit Go.Kq

theorem spanE_in {a b : Int} (h0 : 0 ≤ a) (h1 : a ≤ b) (h2 : b ≤ 4611686018427387904) : spanE a b = (a, b, 0) := by
  unfold spanE in62
  rw [decide_eq_true (by omega), decide_eq_true (by omega)]
  rfl
theorem pi_ref2 {a b : Int} (h0 : 0 ≤ a) (hab : a ≤ b) (h1 : b ≤ 1000000000000000000) : spanL (pisL [(a : Rat), (b : Rat)]) = (piD a, piU b, 0) := by
  obtain ⟨_, p2, p3, p4, p5⟩ := pi_span (a := a) (b := b) h0 hab h1
  have hc : piL ≤ piH := of_decide_eq_true (by kernel_rfl)
  have hn : (0 : Rat) ≤ piL := of_decide_eq_true (by kernel_rfl)
  have hn2 : (0 : Rat) ≤ piH := of_decide_eq_true (by kernel_rfl)
  have qa : (0 : Rat) ≤ (a : Rat) := by exact_mod_cast h0
  have qab : (a : Rat) ≤ (b : Rat) := by exact_mod_cast hab
  have l1 : (a : Rat) * piL ≤ (a : Rat) * piH := Rat.mul_le_mul_of_nonneg_left hc qa
  have l2 : (b : Rat) * piL ≤ (b : Rat) * piH := Rat.mul_le_mul_of_nonneg_left hc (Rat.le_trans qa qab)
  have l3 : (a : Rat) * piL ≤ (b : Rat) * piL := Rat.mul_le_mul_of_nonneg_right qab hn
  have l4 : (a : Rat) * piH ≤ (b : Rat) * piH := Rat.mul_le_mul_of_nonneg_right qab hn2
  have e1 : ((a : Rat) * piL).floor = piD a := floor_rnd (by decide) (scale_mul a _ _ (by decide))
  have e2 : ((b : Rat) * piH).ceil = piU b := ceil_rnd (by decide) (scale_mul b _ _ (by decide))
  have hs : spanL (pisL [(a : Rat), (b : Rat)]) = spanE ((a : Rat) * piL).floor ((b : Rat) * piH).ceil := by
    simp only [pisL]
    generalize (a : Rat) * piL = x1 at *
    generalize (a : Rat) * piH = x2 at *
    generalize (b : Rat) * piL = x3 at *
    generalize (b : Rat) * piH = x4 at *
    refine spanL_of (by simp) ?_ (by simp) ?_
    · intro y hy
      simp only [List.mem_cons, List.not_mem_nil, or_false] at hy
      rcases hy with rfl | rfl | rfl | rfl
      · exact Rat.le_refl
      · exact l1
      · exact l3
      · exact Rat.le_trans l1 l4
    · intro y hy
      simp only [List.mem_cons, List.not_mem_nil, or_false] at hy
      rcases hy with rfl | rfl | rfl | rfl
      · exact Rat.le_trans l1 l4
      · exact l4
      · exact l2
      · exact Rat.le_refl
  rw [hs, e1, e2]
  exact spanE_in p2 p3 (by omega)
theorem two_ref {x y : Rat} (h : x ≤ y) : spanL [x, y] = spanE x.floor y.ceil := by
  refine spanL_of (by simp) ?_ (by simp) ?_
  · intro z hz
    simp only [List.mem_cons, List.not_mem_nil, or_false] at hz
    rcases hz with rfl | rfl
    · exact Rat.le_refl
    · exact h
  · intro z hz
    simp only [List.mem_cons, List.not_mem_nil, or_false] at hz
    rcases hz with rfl | rfl
    · exact h
    · exact Rat.le_refl
theorem half_ref {a b : Int} (h0 : 0 ≤ a) (hab : a ≤ b) (h1 : b ≤ 1000000000) : spanL [(a : Rat) * (((1 : Int) : Rat) / ((2 : Int) : Rat)), (b : Rat) * (((1 : Int) : Rat) / ((2 : Int) : Rat))] = (rnd false a 2, rnd true b 2, 0) := by
  have qab : (a : Rat) ≤ (b : Rat) := by exact_mod_cast hab
  have e1 : ((a : Rat) * (((1 : Int) : Rat) / ((2 : Int) : Rat))).floor = rnd false (a * 1) 2 := floor_rnd (by decide) (scale_mul a _ _ (by decide))
  have e2 : ((b : Rat) * (((1 : Int) : Rat) / ((2 : Int) : Rat))).ceil = rnd true (b * 1) 2 := ceil_rnd (by decide) (scale_mul b _ _ (by decide))
  rw [two_ref (Rat.mul_le_mul_of_nonneg_right qab (of_decide_eq_true (by kernel_rfl))), e1, e2, Int.mul_one, Int.mul_one]
  have d : rnd false a 2 = a / 2 := rfl
  have u : rnd true b 2 = -((-b) / 2) := rfl
  exact spanE_in (by rw [d]; omega) (by rw [d, u]; omega) (by rw [u]; omega)
theorem eight_ref {a b : Int} (h0 : 0 ≤ a) (hab : a ≤ b) (h1 : b ≤ 1000000000) : spanL [(a : Rat) * (((8 : Int) : Rat) / ((1 : Int) : Rat)), (b : Rat) * (((8 : Int) : Rat) / ((1 : Int) : Rat))] = (a * 8, b * 8, 0) := by
  have qab : (a : Rat) ≤ (b : Rat) := by exact_mod_cast hab
  have e1 : ((a : Rat) * (((8 : Int) : Rat) / ((1 : Int) : Rat))).floor = rnd false (a * 8) 1 := floor_rnd (by decide) (scale_mul a _ _ (by decide))
  have e2 : ((b : Rat) * (((8 : Int) : Rat) / ((1 : Int) : Rat))).ceil = rnd true (b * 8) 1 := ceil_rnd (by decide) (scale_mul b _ _ (by decide))
  have d : rnd false (a * 8) 1 = a * 8 := by change (a * 8) / 1 = _; omega
  have u : rnd true (b * 8) 1 = b * 8 := by change -((-(b * 8)) / 1) = _; omega
  rw [two_ref (Rat.mul_le_mul_of_nonneg_right qab (of_decide_eq_true (by kernel_rfl))), e1, e2, d, u]
  exact spanE_in (by omega) (by omega) (by omega)
theorem quo_le {x y d e : Int} (hd : 0 < d) (he : 0 < e) (h : x * e ≤ y * d) : (x : Rat) / (d : Rat) ≤ (y : Rat) / (e : Rat) := by
  have pd := cast_pos hd
  have pe := cast_pos he
  have nd : (d : Rat) ≠ 0 := fun z => by rw [z] at pd; exact absurd pd (by decide)
  have ne : (e : Rat) ≠ 0 := fun z => by rw [z] at pe; exact absurd pe (by decide)
  refine Rat.le_of_mul_le_mul_right (c := (d : Rat)) ?_ pd
  rw [Rat.div_mul_cancel nd]
  refine Rat.le_of_mul_le_mul_right (c := (e : Rat)) ?_ pe
  rw [Rat.mul_assoc, Rat.mul_comm (d : Rat) (e : Rat), ← Rat.mul_assoc, Rat.div_mul_cancel ne, ← Rat.intCast_mul, ← Rat.intCast_mul]
  exact_mod_cast h
theorem div_ref {a b c d : Int} (h0 : 0 ≤ a) (hab : a ≤ b) (h1 : b ≤ 4611686018427387904) (hc : 1 ≤ c) (hcd : c ≤ d) : spanL (cornD (a, b) (c, d)) = (rnd false a d, rnd true b c, 0) := by
  have hbd : a * c ≤ a * d := Int.mul_le_mul_of_nonneg_left hcd h0
  have hbd2 : b * c ≤ b * d := Int.mul_le_mul_of_nonneg_left hcd (by omega)
  have hcc : a * c ≤ b * c := Int.mul_le_mul_of_nonneg_right hab (by omega)
  have hdd : a * d ≤ b * d := Int.mul_le_mul_of_nonneg_right hab (by omega)
  have nc : (c : Rat) ≠ 0 := fun z => by have := cast_pos (d := c) (by omega); rw [z] at this; exact absurd this (by decide)
  have nd : (d : Rat) ≠ 0 := fun z => by have := cast_pos (d := d) (by omega); rw [z] at this; exact absurd this (by decide)
  have e1 : ((a : Rat) / (d : Rat)).floor = rnd false a d := floor_rnd (by omega) (by rw [Rat.div_mul_cancel nd])
  have e2 : ((b : Rat) / (c : Rat)).ceil = rnd true b c := ceil_rnd (by omega) (by rw [Rat.div_mul_cancel nc])
  have l1 : (a : Rat) / (d : Rat) ≤ (a : Rat) / (c : Rat) := quo_le (by omega) (by omega) hbd
  have l2 : (b : Rat) / (d : Rat) ≤ (b : Rat) / (c : Rat) := quo_le (by omega) (by omega) hbd2
  have l3 : (a : Rat) / (c : Rat) ≤ (b : Rat) / (c : Rat) := quo_le (by omega) (by omega) hcc
  have l4 : (a : Rat) / (d : Rat) ≤ (b : Rat) / (d : Rat) := quo_le (by omega) (by omega) hdd
  have hs : spanL (cornD (a, b) (c, d)) = spanE ((a : Rat) / (d : Rat)).floor ((b : Rat) / (c : Rat)).ceil := by
    simp only [cornD]
    generalize (a : Rat) / (d : Rat) = x1 at *
    generalize (a : Rat) / (c : Rat) = x2 at *
    generalize (b : Rat) / (d : Rat) = x3 at *
    generalize (b : Rat) / (c : Rat) = x4 at *
    refine spanL_of (by simp) ?_ (by simp) ?_
    · intro y hy
      simp only [List.mem_cons, List.not_mem_nil, or_false] at hy
      rcases hy with rfl | rfl | rfl | rfl
      · exact l1
      · exact Rat.le_refl
      · exact Rat.le_trans l1 l3
      · exact l4
    · intro y hy
      simp only [List.mem_cons, List.not_mem_nil, or_false] at hy
      rcases hy with rfl | rfl | rfl | rfl
      · exact l3
      · exact Rat.le_trans l1 l3
      · exact Rat.le_refl
      · exact l2
  rw [hs, e1, e2]
  have f1 : rnd false a d = a / d := rfl
  have f2 : rnd true b c = -((-b) / c) := rfl
  have g1 : 0 ≤ a / d := Int.ediv_nonneg h0 (by omega)
  have g2 : a / d ≤ a / c := by
    rw [Int.le_ediv_iff_mul_le (by omega)]
    have := Int.mul_le_mul_of_nonneg_left hcd g1
    have := Int.ediv_mul_le a (b := d) (by omega)
    omega
  have g3 : a / c ≤ b / c := Int.ediv_le_ediv (by omega) hab
  have g4 : b / c ≤ -((-b) / c) := by
    have q1 := Int.ediv_mul_le b (b := c) (by omega)
    have q2 := Int.ediv_mul_le (-b) (b := c) (by omega)
    rcases Int.lt_or_le (-((-b) / c)) (b / c) with h | h
    · exfalso
      have := Int.mul_lt_mul_of_pos_right h (c := c) (by omega)
      rw [Int.neg_mul] at this
      omega
    · exact h
  have g5 : -b ≤ (-b) / c := by
    rw [Int.le_ediv_iff_mul_le (by omega)]
    have := Int.mul_le_mul_of_nonneg_left hc (show 0 ≤ b by omega)
    rw [Int.neg_mul]
    omega
  exact spanE_in (by rw [f1]; exact g1) (by rw [f1, f2]; omega) (by rw [f2]; omega)
theorem root_ref {x : Int} {r s : Nat} (h1 : r * r ≤ x.toNat) (h2 : x.toNat < (r + 1) * (r + 1)) (h3 : s * s ≤ x.toNat) (h4 : x.toNat < (s + 1) * (s + 1)) : r = isq x.toNat ∧ (if s * s < x.toNat then s + 1 else s) = csq x.toNat := by
  refine ⟨isq_unique h1 h2, ?_⟩
  rw [isq_unique h3 h4]
  rfl
end Go.Proofs.YtamjhpdgclbfgaaGreat

namespace Go.Proofs.YtamjhpdgclbfgaaGreat
open Go.RowKit Go.Kq

theorem QAtK.no {K : Nat} {w w' : World} {b : Nat} {qs : List Rat} (h : QAtK K w b qs) (hk : Kp No w w') : QAtK K w' b qs := fun i q hq => by
  obtain ⟨n, d, h1, h2, h3, h4⟩ := h i q hq
  exact ⟨n, d, hk.cell h1 id, hk.cell h2 id, hk.cell h3 id, h4.no hk⟩
theorem setI_two {w : World} {g : Nat} {a b : Value} {t : TypeId} (hh : w.heap[g]? = some (.cells #[a, b] t (0, 0))) (v1 v2 : Value) : ((w.setCell ⟨g, 0, none⟩ v1).setCell ⟨g, 1, none⟩ v2).heap[g]? = some (.cells #[v1, v2] t (0, 0)) := by
  simp [World.setCell, Array.getElem?_modify, hh]
set_option maxHeartbeats 4000000 in
set_option maxRecDepth 100000 in
theorem pi03_is (a : Int × Int) (w : World) (hc : ckE [a] = 0) :
    Calls Tryz.prog 18 #[ivV a.1 a.2] w fun e w' => e = .returned (ieV (spanL (pisL [(a.1 : Rat), (a.2 : Rat)]))) ∧ Kp No w w' := by
  have CK := Lib.hid (fun w0 => check03_is a w0)
  have hfa := ck_fits hc a (by simp)
  rw [hc] at CK
  simp only [fits_in62] at hfa
  unfold in62 at hfa
  obtain ⟨al, ah⟩ := a
  simp only [decide_eq_true_eq] at hfa
  have QL := Lib.hid (fun w0 => quo_is al w0 (by omega))
  have QH := Lib.hid (fun w0 => quo_is ah w0 (by omega))
  obtain ⟨xl, hxl⟩ : ∃ q : Rat, q = (al : Rat) := ⟨_, rfl⟩
  obtain ⟨xh, hxh⟩ : ∃ q : Rat, q = (ah : Rat) := ⟨_, rfl⟩
  simp only [← hxl, ← hxh] at QL QH ⊢
  have PI := Lib.hid (fun (g c : Nat) w0 hq => pis_is g 2 c [xl, xh] w0 rfl (by omega) (by omega) hq)
  have SP := Lib.hid (fun (g c : Nat) w0 hq => span_is g 4 c (pisL [xl, xh]) w0 rfl (by omega) hq)
  obtain ⟨⟨x1, x2, x3⟩, hsp⟩ : ∃ x, spanL (pisL [xl, xh]) = x := ⟨_, rfl⟩
  rw [hsp] at SP ⊢
  simp only [ieV, ivV] at *
  generalize pisL [xl, xh] = PL at *
  clear hsp hxl hxh hfa hc
  obtain ⟨h1, h2, KA⟩ := two_newQ w (.cells #[.int .i64 al, .int .i64 ah] 38) (.cells #[.int .i64 0, .int .i64 0] 38)
  replace h1 := Lib.hid h1
  replace h2 := Lib.hid h2
  replace KA := Lib.hid KA
  obtain ⟨gA, hgA⟩ : ∃ gA, w.heap.size = gA := ⟨_, rfl⟩
  go_enter Tryz.func18, Tryz.ntmps18
  go_wp2_with fail
  refine (CK.out _).mono ?_
  rintro _ wb ⟨rfl, kb⟩
  have KB := Lib.hid (KA.out.tr kb)
  have H1 := Lib.hid (kb.heap h1.out id)
  have H2 := Lib.hid (kb.heap h2.out id)
  clear kb CK KA h1 h2
  rw [hgA] at H1 H2
  have c0 : wb.cell? ⟨gA, 0, none⟩ = some (.int .i64 al) := by rw [cell_of_row _ _ _ _ _ _ H1.out]; rfl
  have c1 : wb.cell? ⟨gA, 1, none⟩ = some (.int .i64 ah) := by rw [cell_of_row _ _ _ _ _ _ H1.out]; rfl
  go_wp2_with fail
  have up : ∀ (r : Nat → Option Value) (w' : World) (i : Nat) (v : Value), i ≠ 2 → i ≠ 5 → i ≠ 6 → i ≠ 7 → i ≠ 11 → (∀ c ∈ ([(11, 9), (9, 8), (8, 7), (7, 6), (6, 5), (6, 2), (5, 4), (2, 1)] : List (Nat × Nat)), c.1 ≠ i) → ((r 11 = none → Kp No wb w' ∧ (∀ u, r 2 = some u → IsQuo w' u xl 2) ∧ (∀ u, r 5 = some u → IsQuo w' u xh 2) ∧ (∀ u, r 6 = some u → ∃ g, u = .slice (some ⟨g, 0, none⟩) 2 2 ∧ QAtK 14 w' g [xl, xh]) ∧ (∀ u, r 7 = some u → ∃ g c, u = .slice (some ⟨g, 0, none⟩) 4 c ∧ QAtK 20 w' g PL)) ∧ (r 11 ≠ none → ∃ w0, Kp No wb w0 ∧ w' = (w0.setCell ⟨gA + 1, 0, none⟩ (.int .i64 x1)).setCell ⟨gA + 1, 1, none⟩ (.int .i64 x2)) ∧ (∀ c ∈ ([(11, 9), (9, 8), (8, 7), (7, 6), (6, 5), (6, 2), (5, 4), (2, 1)] : List (Nat × Nat)), r c.1 ≠ none → r c.2 ≠ none)) → (((Kq.upd r i v) 11 = none → Kp No wb w' ∧ (∀ u, (Kq.upd r i v) 2 = some u → IsQuo w' u xl 2) ∧ (∀ u, (Kq.upd r i v) 5 = some u → IsQuo w' u xh 2) ∧ (∀ u, (Kq.upd r i v) 6 = some u → ∃ g, u = .slice (some ⟨g, 0, none⟩) 2 2 ∧ QAtK 14 w' g [xl, xh]) ∧ (∀ u, (Kq.upd r i v) 7 = some u → ∃ g c, u = .slice (some ⟨g, 0, none⟩) 4 c ∧ QAtK 20 w' g PL)) ∧ ((Kq.upd r i v) 11 ≠ none → ∃ w0, Kp No wb w0 ∧ w' = (w0.setCell ⟨gA + 1, 0, none⟩ (.int .i64 x1)).setCell ⟨gA + 1, 1, none⟩ (.int .i64 x2)) ∧ (∀ c ∈ ([(11, 9), (9, 8), (8, 7), (7, 6), (6, 5), (6, 2), (5, 4), (2, 1)] : List (Nat × Nat)), (Kq.upd r i v) c.1 ≠ none → (Kq.upd r i v) c.2 ≠ none)) := fun r w' i v n2 n5 n6 n7 n11 hcc h => ⟨by rw [upd_ne _ _ n2.symm, upd_ne _ _ n5.symm, upd_ne _ _ n6.symm, upd_ne _ _ n7.symm, upd_ne _ _ n11.symm]; exact h.1, by rw [upd_ne _ _ n11.symm]; exact h.2.1, chain_upd h.2.2 fun c hc e => absurd e (hcc c hc)⟩
  have UP := Lib.hid up
  clear up
  refine wp_region_each (fun ix uR => match ix with | 0 => uR = .pointer (some ⟨gA, 0, none⟩) | 1 => uR = .int .i64 al | 3 => uR = .pointer (some ⟨gA, 1, none⟩) | 4 => uR = .int .i64 ah | 8 => uR = .tuple #[.agg #[.int .i64 x1, .int .i64 x2], .int .i64 x3] | 9 => uR = .agg #[.int .i64 x1, .int .i64 x2] | 10 => uR = .int .i64 x3 | 12 => uR = .int .i64 x3 | _ => True) (fun r w' => ((r 11 = none → Kp No wb w' ∧ (∀ u, r 2 = some u → IsQuo w' u xl 2) ∧ (∀ u, r 5 = some u → IsQuo w' u xh 2) ∧ (∀ u, r 6 = some u → ∃ g, u = .slice (some ⟨g, 0, none⟩) 2 2 ∧ QAtK 14 w' g [xl, xh]) ∧ (∀ u, r 7 = some u → ∃ g c, u = .slice (some ⟨g, 0, none⟩) 4 c ∧ QAtK 20 w' g PL)) ∧ (r 11 ≠ none → ∃ w0, Kp No wb w0 ∧ w' = (w0.setCell ⟨gA + 1, 0, none⟩ (.int .i64 x1)).setCell ⟨gA + 1, 1, none⟩ (.int .i64 x2)) ∧ (∀ c ∈ ([(11, 9), (9, 8), (8, 7), (7, 6), (6, 5), (6, 2), (5, 4), (2, 1)] : List (Nat × Nat)), r c.1 ≠ none → r c.2 ≠ none))) (by kernel_rfl) (by kernel_rfl) (by kernel_rfl) ?_ ?_ ?_
  · exact ⟨fun _ => ⟨Kp.drew _ _, fun u h => (by cases h), fun u h => (by cases h), fun u h => (by cases h), fun u h => (by cases h)⟩, fun h => absurd rfl h, fun _ _ h => absurd rfl h⟩
  · refine ⟨?_, ?_, ?_, ?_, ?_, ?_, ?_, ?_, ?_, ?_, ?_, ?_, ?_, trivial⟩
    · intro r a w' hf hg hW hr hd K hK
      refine wpOp_of rfl rfl ?_
      have e0 : a.tmps.getD 1 undef = .pointer (some ⟨gA, 0, none⟩) := hf.evalFree (by kernel_rfl)
      go_simp
      exact hK _ _ rfl (UP.out r w' 0 _ (by decide) (by decide) (by decide) (by decide) (by decide) (by intro c hc; simp only [List.mem_cons, List.not_mem_nil, or_false] at hc; rcases hc with rfl | rfl | rfl | rfl | rfl | rfl | rfl | rfl <;> decide) hW)
    · intro r a w' hf hg hW hr hd K hK
      refine wpOp_of rfl rfl ?_
      refine hf.depE hg hd 0 11 (by kernel_rfl) fun u0 e0 g0 h0 => ?_
      replace g0 : u0 = .pointer (some ⟨gA, 0, none⟩) := g0
      subst g0
      have q2 : r 2 = none := Classical.byContradiction fun e => hW.2.2 (2, 1) (by decide) e hr
      have q6 : r 6 = none := Classical.byContradiction fun e => hW.2.2 (6, 2) (by decide) e q2
      have q7 : r 7 = none := Classical.byContradiction fun e => hW.2.2 (7, 6) (by decide) e q6
      have q8 : r 8 = none := Classical.byContradiction fun e => hW.2.2 (8, 7) (by decide) e q7
      have q9 : r 9 = none := Classical.byContradiction fun e => hW.2.2 (9, 8) (by decide) e q8
      have q11 : r 11 = none := Classical.byContradiction fun e => hW.2.2 (11, 9) (by decide) e q9
      have z0 := (hW.1 q11).1.cell c0 id
      go_simp
      exact hK _ _ rfl (UP.out r w' 1 _ (by decide) (by decide) (by decide) (by decide) (by decide) (by intro c hc; simp only [List.mem_cons, List.not_mem_nil, or_false] at hc; rcases hc with rfl | rfl | rfl | rfl | rfl | rfl | rfl | rfl <;> decide) hW)
    · intro r a w' hf hg hW hr hd K hK
      refine wpOp_of rfl rfl ?_
      refine hf.depE hg hd 1 12 (by kernel_rfl) fun u0 e0 g0 h0 => ?_
      replace g0 : u0 = .int .i64 al := g0
      subst g0
      have q6 : r 6 = none := Classical.byContradiction fun e => hW.2.2 (6, 2) (by decide) e hr
      have q7 : r 7 = none := Classical.byContradiction fun e => hW.2.2 (7, 6) (by decide) e q6
      have q8 : r 8 = none := Classical.byContradiction fun e => hW.2.2 (8, 7) (by decide) e q7
      have q9 : r 9 = none := Classical.byContradiction fun e => hW.2.2 (9, 8) (by decide) e q8
      have q11 : r 11 = none := Classical.byContradiction fun e => hW.2.2 (11, 9) (by decide) e q9
      obtain ⟨fk, f2, f5, f6, f7⟩ := hW.1 q11
      go_simp
      with_reducible refine (QL.out _).mono ?_
      rintro e w'' ⟨z, rfl, hz, k'⟩
      exact hK _ _ trivial ⟨fun _ => ⟨fk.tr k', (fun u hu => (by rw [upd_same] at hu; cases hu; exact hz.is)), (fun u hu => (by rw [upd_ne _ _ (by decide)] at hu; exact (f5 u hu).no k')), (fun u hu => (by rw [upd_ne _ _ (by decide)] at hu; obtain ⟨g, e1, e2⟩ := f6 u hu; exact ⟨g, e1, QAtK.no e2 k'⟩)), (fun u hu => (by rw [upd_ne _ _ (by decide)] at hu; obtain ⟨g, c, e1, e2⟩ := f7 u hu; exact ⟨g, c, e1, QAtK.no e2 k'⟩))⟩, fun e => absurd (by rw [upd_ne _ _ (by decide)]; exact q11) e, (chain_upd hW.2.2 (by intro c hc e; simp only [List.mem_cons, List.not_mem_nil, or_false] at hc; rcases hc with rfl | rfl | rfl | rfl | rfl | rfl | rfl | rfl <;> first | (exact absurd e (by decide)) | (rw [h0]; simp)))⟩
    · intro r a w' hf hg hW hr hd K hK
      refine wpOp_of rfl rfl ?_
      have e0 : a.tmps.getD 1 undef = .pointer (some ⟨gA, 0, none⟩) := hf.evalFree (by kernel_rfl)
      go_simp
      exact hK _ _ rfl (UP.out r w' 3 _ (by decide) (by decide) (by decide) (by decide) (by decide) (by intro c hc; simp only [List.mem_cons, List.not_mem_nil, or_false] at hc; rcases hc with rfl | rfl | rfl | rfl | rfl | rfl | rfl | rfl <;> decide) hW)
    · intro r a w' hf hg hW hr hd K hK
      refine wpOp_of rfl rfl ?_
      refine hf.depE hg hd 3 14 (by kernel_rfl) fun u0 e0 g0 h0 => ?_
      replace g0 : u0 = .pointer (some ⟨gA, 1, none⟩) := g0
      subst g0
      have q5 : r 5 = none := Classical.byContradiction fun e => hW.2.2 (5, 4) (by decide) e hr
      have q6 : r 6 = none := Classical.byContradiction fun e => hW.2.2 (6, 5) (by decide) e q5
      have q7 : r 7 = none := Classical.byContradiction fun e => hW.2.2 (7, 6) (by decide) e q6
      have q8 : r 8 = none := Classical.byContradiction fun e => hW.2.2 (8, 7) (by decide) e q7
      have q9 : r 9 = none := Classical.byContradiction fun e => hW.2.2 (9, 8) (by decide) e q8
      have q11 : r 11 = none := Classical.byContradiction fun e => hW.2.2 (11, 9) (by decide) e q9
      have z0 := (hW.1 q11).1.cell c1 id
      go_simp
      exact hK _ _ rfl (UP.out r w' 4 _ (by decide) (by decide) (by decide) (by decide) (by decide) (by intro c hc; simp only [List.mem_cons, List.not_mem_nil, or_false] at hc; rcases hc with rfl | rfl | rfl | rfl | rfl | rfl | rfl | rfl <;> decide) hW)
    · intro r a w' hf hg hW hr hd K hK
      refine wpOp_of rfl rfl ?_
      refine hf.depE hg hd 4 15 (by kernel_rfl) fun u0 e0 g0 h0 => ?_
      replace g0 : u0 = .int .i64 ah := g0
      subst g0
      have q6 : r 6 = none := Classical.byContradiction fun e => hW.2.2 (6, 5) (by decide) e hr
      have q7 : r 7 = none := Classical.byContradiction fun e => hW.2.2 (7, 6) (by decide) e q6
      have q8 : r 8 = none := Classical.byContradiction fun e => hW.2.2 (8, 7) (by decide) e q7
      have q9 : r 9 = none := Classical.byContradiction fun e => hW.2.2 (9, 8) (by decide) e q8
      have q11 : r 11 = none := Classical.byContradiction fun e => hW.2.2 (11, 9) (by decide) e q9
      obtain ⟨fk, f2, f5, f6, f7⟩ := hW.1 q11
      go_simp
      with_reducible refine (QH.out _).mono ?_
      rintro e w'' ⟨z, rfl, hz, k'⟩
      exact hK _ _ trivial ⟨fun _ => ⟨fk.tr k', (fun u hu => (by rw [upd_ne _ _ (by decide)] at hu; exact (f2 u hu).no k')), (fun u hu => (by rw [upd_same] at hu; cases hu; exact hz.is)), (fun u hu => (by rw [upd_ne _ _ (by decide)] at hu; obtain ⟨g, e1, e2⟩ := f6 u hu; exact ⟨g, e1, QAtK.no e2 k'⟩)), (fun u hu => (by rw [upd_ne _ _ (by decide)] at hu; obtain ⟨g, c, e1, e2⟩ := f7 u hu; exact ⟨g, c, e1, QAtK.no e2 k'⟩))⟩, fun e => absurd (by rw [upd_ne _ _ (by decide)]; exact q11) e, (chain_upd hW.2.2 (by intro c hc e; simp only [List.mem_cons, List.not_mem_nil, or_false] at hc; rcases hc with rfl | rfl | rfl | rfl | rfl | rfl | rfl | rfl <;> first | (exact absurd e (by decide)) | (rw [h0]; simp)))⟩
    · intro r a w' hf hg hW hr hd K hK
      refine wpOp_of rfl rfl ?_
      refine hf.depE hg hd 2 13 (by kernel_rfl) fun u0 e0 g0 h0 => ?_
      have e0' := get_of_getD e0
      refine hf.depE hg hd 5 16 (by kernel_rfl) fun u1 e1 g1 h1 => ?_
      have e1' := get_of_getD e1
      have q7 : r 7 = none := Classical.byContradiction fun e => hW.2.2 (7, 6) (by decide) e hr
      have q8 : r 8 = none := Classical.byContradiction fun e => hW.2.2 (8, 7) (by decide) e q7
      have q9 : r 9 = none := Classical.byContradiction fun e => hW.2.2 (9, 8) (by decide) e q8
      have q11 : r 11 = none := Classical.byContradiction fun e => hW.2.2 (11, 9) (by decide) e q9
      obtain ⟨fk, f2, f5, f6, f7⟩ := hW.1 q11
      obtain ⟨n1, d1, e1q, hn1, hd1⟩ := f2 u0 h0
      obtain ⟨n2, d2, e2q, hn2, hd2⟩ := f5 u1 h1
      subst e1q e2q
      obtain ⟨A1, m1, cn1, _, rfl, _⟩ := hn1.pos
      obtain ⟨B1, o1, cd1, _, rfl, _⟩ := hd1.pos
      obtain ⟨A2, m2, cn2, _, rfl, _⟩ := hn2.pos
      obtain ⟨B2, o2, cd2, _, rfl, _⟩ := hd2.pos
      have ka := Kp.alloc No w' (.cells #[.bool (negQ xl), .slice A1 m1 cn1, .slice B1 o1 cd1, .bool (negQ xh), .slice A2 m2 cn2, .slice B2 o2 cd2] 76)
      have hqa := qatk_two (t := 76) (K := 14) (heap_alloc_new w' _) rfl rfl ⟨_, _, rfl, (hn1.le (by omega)).no ka, (hd1.le (by omega)).no ka⟩ ⟨_, _, rfl, (hn2.le (by omega)).no ka, (hd2.le (by omega)).no ka⟩
      go_simp
      exact hK _ _ trivial ⟨fun _ => ⟨fk.tr ka, (fun u hu => (by rw [upd_ne _ _ (by decide)] at hu; exact (f2 u hu).no ka)), (fun u hu => (by rw [upd_ne _ _ (by decide)] at hu; exact (f5 u hu).no ka)), (fun u hu => (by rw [upd_same] at hu; cases hu; exact ⟨w'.heap.size, rfl, hqa⟩)), (fun u hu => (by rw [upd_ne _ _ (by decide)] at hu; obtain ⟨g, c, e1, e2⟩ := f7 u hu; exact ⟨g, c, e1, QAtK.no e2 ka⟩))⟩, fun e => absurd (by rw [upd_ne _ _ (by decide)]; exact q11) e, (chain_upd hW.2.2 (by intro c hc e; simp only [List.mem_cons, List.not_mem_nil, or_false] at hc; rcases hc with rfl | rfl | rfl | rfl | rfl | rfl | rfl | rfl <;> first | (exact absurd e (by decide)) | (rw [h0]; simp) | (rw [h1]; simp)))⟩
    · intro r a w' hf hg hW hr hd K hK
      refine wpOp_of rfl rfl ?_
      refine hf.depE hg hd 6 17 (by kernel_rfl) fun u0 e0 g0 h0 => ?_
      have q8 : r 8 = none := Classical.byContradiction fun e => hW.2.2 (8, 7) (by decide) e hr
      have q9 : r 9 = none := Classical.byContradiction fun e => hW.2.2 (9, 8) (by decide) e q8
      have q11 : r 11 = none := Classical.byContradiction fun e => hW.2.2 (11, 9) (by decide) e q9
      obtain ⟨fk, f2, f5, f6, f7⟩ := hW.1 q11
      obtain ⟨g, eg, hqa⟩ := f6 u0 h0
      subst eg
      go_simp
      with_reducible refine (PI.out _ _ _ hqa).mono ?_
      rintro e w'' ⟨g', c', rfl, hq', k'⟩
      exact hK _ _ trivial ⟨fun _ => ⟨fk.tr k', (fun u hu => (by rw [upd_ne _ _ (by decide)] at hu; exact (f2 u hu).no k')), (fun u hu => (by rw [upd_ne _ _ (by decide)] at hu; exact (f5 u hu).no k')), (fun u hu => (by rw [upd_ne _ _ (by decide)] at hu; obtain ⟨g, e1, e2⟩ := f6 u hu; exact ⟨g, e1, QAtK.no e2 k'⟩)), (fun u hu => (by rw [upd_same] at hu; cases hu; exact ⟨g', c', rfl, hq'⟩))⟩, fun e => absurd (by rw [upd_ne _ _ (by decide)]; exact q11) e, (chain_upd hW.2.2 (by intro c hc e; simp only [List.mem_cons, List.not_mem_nil, or_false] at hc; rcases hc with rfl | rfl | rfl | rfl | rfl | rfl | rfl | rfl <;> first | (exact absurd e (by decide)) | (rw [h0]; simp)))⟩
    · intro r a w' hf hg hW hr hd K hK
      refine wpOp_of rfl rfl ?_
      refine hf.depE hg hd 7 18 (by kernel_rfl) fun u0 e0 g0 h0 => ?_
      have q9 : r 9 = none := Classical.byContradiction fun e => hW.2.2 (9, 8) (by decide) e hr
      have q11 : r 11 = none := Classical.byContradiction fun e => hW.2.2 (11, 9) (by decide) e q9
      obtain ⟨fk, f2, f5, f6, f7⟩ := hW.1 q11
      obtain ⟨g, c, eg, hqa⟩ := f7 u0 h0
      subst eg
      go_simp
      with_reducible refine (SP.out _ _ _ (hqa.le (by omega))).mono ?_
      rintro e w'' ⟨rfl, k'⟩
      exact hK _ _ rfl ⟨fun _ => ⟨fk.tr k', (fun u hu => (by rw [upd_ne _ _ (by decide)] at hu; exact (f2 u hu).no k')), (fun u hu => (by rw [upd_ne _ _ (by decide)] at hu; exact (f5 u hu).no k')), (fun u hu => (by rw [upd_ne _ _ (by decide)] at hu; obtain ⟨g, e1, e2⟩ := f6 u hu; exact ⟨g, e1, QAtK.no e2 k'⟩)), (fun u hu => (by rw [upd_ne _ _ (by decide)] at hu; obtain ⟨g, c, e1, e2⟩ := f7 u hu; exact ⟨g, c, e1, QAtK.no e2 k'⟩))⟩, fun e => absurd (by rw [upd_ne _ _ (by decide)]; exact q11) e, (chain_upd hW.2.2 (by intro c hc e; simp only [List.mem_cons, List.not_mem_nil, or_false] at hc; rcases hc with rfl | rfl | rfl | rfl | rfl | rfl | rfl | rfl <;> first | (exact absurd e (by decide)) | (rw [h0]; simp)))⟩
    · intro r a w' hf hg hW hr hd K hK
      refine wpOp_of rfl rfl ?_
      refine hf.depE hg hd 8 19 (by kernel_rfl) fun u0 e0 g0 h0 => ?_
      replace g0 : u0 = .tuple #[.agg #[.int .i64 x1, .int .i64 x2], .int .i64 x3] := g0
      subst g0
      have q11 : r 11 = none := Classical.byContradiction fun e => hW.2.2 (11, 9) (by decide) e hr
      go_simp
      exact hK _ _ rfl ⟨fun _ => (by obtain ⟨fk, f2, f5, f6, f7⟩ := hW.1 q11; exact ⟨fk, (fun u hu => (by rw [upd_ne _ _ (by decide)] at hu; exact f2 u hu)), (fun u hu => (by rw [upd_ne _ _ (by decide)] at hu; exact f5 u hu)), (fun u hu => (by rw [upd_ne _ _ (by decide)] at hu; exact f6 u hu)), (fun u hu => (by rw [upd_ne _ _ (by decide)] at hu; exact f7 u hu))⟩), fun e => absurd (by rw [upd_ne _ _ (by decide)]; exact q11) e, (chain_upd hW.2.2 (by intro c hc e; simp only [List.mem_cons, List.not_mem_nil, or_false] at hc; rcases hc with rfl | rfl | rfl | rfl | rfl | rfl | rfl | rfl <;> first | (exact absurd e (by decide)) | (rw [h0]; simp)))⟩
    · intro r a w' hf hg hW hr hd K hK
      refine wpOp_of rfl rfl ?_
      refine hf.depE hg hd 8 19 (by kernel_rfl) fun u0 e0 g0 h0 => ?_
      replace g0 : u0 = .tuple #[.agg #[.int .i64 x1, .int .i64 x2], .int .i64 x3] := g0
      subst g0
      go_simp
      exact hK _ _ rfl (UP.out r w' 10 _ (by decide) (by decide) (by decide) (by decide) (by decide) (by intro c hc; simp only [List.mem_cons, List.not_mem_nil, or_false] at hc; rcases hc with rfl | rfl | rfl | rfl | rfl | rfl | rfl | rfl <;> decide) hW)
    · intro r a w' hf hg hW hr hd K hK
      refine wpOp_of rfl rfl ?_
      have e0 : a.tmps.getD 2 undef = .pointer (some ⟨gA + 1, 0, none⟩) := hf.evalFree (by kernel_rfl)
      refine hf.depE hg hd 9 20 (by kernel_rfl) fun u1 e1 g1 h1 => ?_
      replace g1 : u1 = .agg #[.int .i64 x1, .int .i64 x2] := g1
      subst g1
      obtain ⟨fk, f2, f5, f6, f7⟩ := hW.1 hr
      have hb := fk.heap H2.out id
      have y0 : w'.cell? ⟨gA + 1, 0, none⟩ = some (.int .i64 0) := by rw [cell_of_row _ _ _ _ _ _ hb]; rfl
      have y1 : w'.cell? ⟨gA + 1, 1, none⟩ = some (.int .i64 0) := by rw [cell_of_row _ _ _ _ _ _ hb]; rfl
      have z0 : w'.frozen? ⟨gA + 1, 0, none⟩ = false := by simp [World.frozen?, hb]
      have z1 : w'.frozen? ⟨gA + 1, 1, none⟩ = false := by simp [World.frozen?, hb]
      go_simp
      exact hK undef _ trivial ⟨fun e => (by rw [upd_same] at e; cases e), fun _ => ⟨w', fk, rfl⟩, (chain_upd hW.2.2 (by intro c hc e; simp only [List.mem_cons, List.not_mem_nil, or_false] at hc; rcases hc with rfl | rfl | rfl | rfl | rfl | rfl | rfl | rfl <;> first | (exact absurd e (by decide)) | (rw [h1]; simp) | (rw [h0]; simp)))⟩
    · intro r a w' hf hg hW hr hd K hK
      refine wpOp_of rfl rfl ?_
      refine hf.depE hg hd 10 21 (by kernel_rfl) fun u0 e0 g0 h0 => ?_
      replace g0 : u0 = .int .i64 x3 := g0
      subst g0
      go_simp
      exact hK _ _ rfl (UP.out r w' 12 _ (by decide) (by decide) (by decide) (by decide) (by decide) (by intro c hc; simp only [List.mem_cons, List.not_mem_nil, or_false] at hc; rcases hc with rfl | rfl | rfl | rfl | rfl | rfl | rfl | rfl <;> decide) hW)
  intro r' w9 hg hW hr'
  obtain ⟨q12, hq12⟩ : ∃ u, r' 12 = some u := Option.ne_none_iff_exists'.1 (hr' 12 (by decide))
  simp only [List.length_cons, List.length_nil, Nat.reduceAdd, List.range_succ, List.range_zero, List.nil_append, List.cons_append, List.map_cons, List.map_nil, putAll, Act.put, List.setIfInBounds_toArray, List.set_cons_succ, List.set_cons_zero, hq12, Option.getD_some]
  have hk12 := hg 12 q12 hq12
  replace hk12 : q12 = .int .i64 x3 := hk12
  subst hk12
  obtain ⟨w0, k0, hw0⟩ := hW.2.1 (hr' 11 (by decide))
  have hb0 := setI_two (k0.heap H2.out id) (.int .i64 x1) (.int .i64 x2)
  rw [← hw0] at hb0
  have KE := Lib.hid (show Kp No w w9 by
    rw [hw0]
    exact kp_set2 (KB.out.tr k0) (by omega))
  have v0 : w9.cell? ⟨gA + 1, 0, none⟩ = some (.int .i64 x1) := by rw [cell_of_row _ _ _ _ _ _ hb0]; rfl
  have v1 : w9.cell? ⟨gA + 1, 1, none⟩ = some (.int .i64 x2) := by rw [cell_of_row _ _ _ _ _ _ hb0]; rfl
  clear hW k0 hb0 KB c0 c1 QL QH PI SP
  go_wp2_with fail
  exact bodyPost_ret (v := .tuple #[.agg #[.int .i64 x1, .int .i64 x2], .int .i64 x3]) (by simp [results, Tryz.results18, go_sem, v0, v1]) rfl ⟨rfl, KE.out⟩
end Go.Proofs.YtamjhpdgclbfgaaGreat
