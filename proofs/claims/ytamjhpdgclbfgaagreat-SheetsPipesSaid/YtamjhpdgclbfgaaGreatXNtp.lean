/- Fractions: QAdd: the walk. Printed by gen_ntn.py. -/
import Derived.Test.YtamjhpdgclbfgaaGreatXNtn
namespace Go.Proofs.YtamjhpdgclbfgaaGreat
open Go.RowKit Go.Kq

theorem minus_new (u v : Value) (x y k m K : Nat) (w : World) (hu : IsNat w u x k) (hv : IsNat w v y m) (hk : k ≤ 1000) (hm : m ≤ 1000) (hK : k ≤ K) (hle : y ≤ x) :
    Calls Tryz.prog 115 #[u, v] w fun e w' => ∃ z, e = .returned z ∧ IsNew w.heap.size w' z (x - y) K ∧ Kp No w w' := by
  refine (minus_is u v x y k m w hu hv (by omega) (by omega) hle).mono ?_
  rintro e w' ⟨z, rfl, hz, hk⟩
  exact ⟨z, rfl, ⟨hz.1.le hK, hz.2⟩, hk⟩
theorem cmpN_lt0 {a b : Nat} (h : ¬ b ≤ a) : cmpN a b = -1 := by
  unfold cmpN
  rw [if_pos (by omega)]
set_option maxHeartbeats 4000000 in
set_option maxRecDepth 100000 in
theorem qadd_is (u v : Value) (a b : Rat) (k m : Nat) (w : World) (hu : IsQuo w u a k) (hv : IsQuo w v b m) (hkm : k + m + 1 ≤ 140) :
    Calls Tryz.prog 99 #[u, v] w fun e w' => ∃ z, e = .returned (.tuple #[z, .int .i64 0]) ∧ QuoNew w.heap.size w' z (a + b) (2 * (k + m) + 3) ∧ Kp No w w' := by
  have hu0 := hu
  have hv0 := hv
  obtain ⟨n1, d1, rfl, hn1, hd1⟩ := hu
  obtain ⟨n2, d2, rfl, hn2, hd2⟩ := hv
  have hlow := add_low a b
  obtain ⟨s1, hs1⟩ : ∃ s, negQ a = s := ⟨_, rfl⟩
  obtain ⟨s2, hs2⟩ : ∃ s, negQ b = s := ⟨_, rfl⟩
  have hdp := Lib.hid (show 0 < a.den * b.den from Nat.mul_pos a.den_pos b.den_pos)
  rw [hs1, hs2] at hlow
  rw [hs1] at hu0 ⊢
  rw [hs2] at hv0 ⊢
  obtain ⟨KT, hKT⟩ : ∃ K, K = k + m + 1 := ⟨_, rfl⟩
  obtain ⟨KK, hKK⟩ : ∃ K, K = 2 * (k + m) + 3 := ⟨_, rfl⟩
  rw [← hKK]
  have HKK := Lib.hid (show KK = KT + KT + 1 ∧ KK ≤ 300 by omega)
  have BQ := Lib.hid (fun (g : Nat) (w0 : World) (hk0 : Kp No w w0) hh => badq_two n1 d1 n2 d2 a b s1 s2 g k m 76 w0 (by omega) (by omega) hs1 hs2 (hu0.no hk0) (hv0.no hk0) hh)
  have T1 := Lib.hid (fun (w0 : World) (hk0 : Kp No w w0) => times_new n1 d2 _ _ k m KT w0 (hn1.no hk0) (hd2.no hk0) (by omega) (by omega) (by omega))
  have T2 := Lib.hid (fun (w0 : World) (hk0 : Kp No w w0) => times_new n2 d1 _ _ m k KT w0 (hn2.no hk0) (hd1.no hk0) (by omega) (by omega) (by omega))
  have T3 := Lib.hid (fun (w0 : World) (hk0 : Kp No w w0) => times_new d1 d2 _ _ k m KT w0 (hd1.no hk0) (hd2.no hk0) (by omega) (by omega) (by omega))
  obtain ⟨qq, hqq⟩ : ∃ q, q = a + b := ⟨_, rfl⟩
  rw [← hqq] at hlow ⊢
  generalize a.num.natAbs = x1 at *
  generalize b.num.natAbs = x2 at *
  generalize a.den = y1 at *
  generalize b.den = y2 at *
  replace hlow := Lib.hid hlow
  clear hqq hs1 hs2
  obtain ⟨A1, m1, c1, _, rfl, _⟩ := hn1.pos
  obtain ⟨A2, m2, c2, _, rfl, _⟩ := hd1.pos
  obtain ⟨A3, m3, c3, _, rfl, _⟩ := hn2.pos
  obtain ⟨A4, m4, c4, _, rfl, _⟩ := hd2.pos
  clear hn1 hn2 hd1 hd2 hu0 hv0 hKK hKT
  obtain ⟨h1, h2, h3, h4, KA⟩ := four_new w (.cells #[.bool s1, .slice A1 m1 c1, .slice A2 m2 c2] 76) (.cells #[.bool s2, .slice A3 m3 c3, .slice A4 m4 c4] 76) (.cells #[.bool false, .slice none 0 0, .slice none 0 0] 76) (.cells #[.bool s1, .slice A1 m1 c1, .slice A2 m2 c2, .bool s2, .slice A3 m3 c3, .slice A4 m4 c4] 76)
  replace h1 := Lib.hid h1
  replace h2 := Lib.hid h2
  replace h3 := Lib.hid h3
  replace h4 := Lib.hid h4
  replace KA := Lib.hid KA
  go_enter Tryz.func99, Tryz.ntmps99
  go_wp2_with fail
  refine (BQ.out _ _ KA.out h4.out).mono ?_
  rintro _ wb ⟨rfl, kb⟩
  have KB := Lib.hid (KA.out.tr kb)
  have HB1 := kb.heap h1.out id
  have HB2 := kb.heap h2.out id
  have HB3 := Lib.hid (kb.heap h3.out id)
  have SB := Lib.hid (show w.heap.size + 1 + 1 + 1 ≤ wb.heap.size from (Array.getElem?_eq_some_iff.1 HB3.out).1)
  obtain ⟨a0, a1, a2, _⟩ := three_cells HB1
  obtain ⟨b0, b1, b2, _⟩ := three_cells HB2
  have nA := Lib.hid (show ¬ Kq.One (w.heap.size + 1 + 1) w.heap.size from fun e => by unfold Kq.One at e; omega)
  have nB := Lib.hid (show ¬ Kq.One (w.heap.size + 1 + 1) (w.heap.size + 1) from fun e => by unfold Kq.One at e; omega)
  clear h1 h2 h3 h4 KA kb HB1 HB2 BQ
  go_wp2_with fail
  have FS : Stab (fun i wz u => (i = 4 → IsNew (w.heap.size + 1 + 1 + 1) wz u (x1 * y2) KT) ∧ (i = 9 → IsNew (w.heap.size + 1 + 1 + 1) wz u (x2 * y1) KT) ∧ (i = 14 → IsNew (w.heap.size + 1 + 1 + 1) wz u (y1 * y2) KT) ∧ (i = 15 → IsNew (w.heap.size + 1 + 1 + 1) wz u (x1 * y2) KT) ∧ (i = 16 → IsNew (w.heap.size + 1 + 1 + 1) wz u (x2 * y1) KT) ∧ (i = 17 → IsNew (w.heap.size + 1 + 1 + 1) wz u (y1 * y2) KT) ∧ True) := fun i u wz wz' k h => ⟨fun e => IsNew.no (h.1 e) k, fun e => IsNew.no (h.2.1 e) k, fun e => IsNew.no (h.2.2.1 e) k, fun e => IsNew.no (h.2.2.2.1 e) k, fun e => IsNew.no (h.2.2.2.2.1 e) k, fun e => IsNew.no (h.2.2.2.2.2.1 e) k, trivial⟩
  have FS := Lib.hid FS
  refine wp_region_each (fun i u => match i with | 0 => u = .pointer (some ⟨w.heap.size, 1, none⟩) | 1 => u = .slice A1 m1 c1 | 2 => u = .pointer (some ⟨w.heap.size + 1, 2, none⟩) | 3 => u = .slice A4 m4 c4 | 5 => u = .pointer (some ⟨w.heap.size + 1, 1, none⟩) | 6 => u = .slice A3 m3 c3 | 7 => u = .pointer (some ⟨w.heap.size, 2, none⟩) | 8 => u = .slice A2 m2 c2 | 10 => u = .pointer (some ⟨w.heap.size, 2, none⟩) | 11 => u = .slice A2 m2 c2 | 12 => u = .pointer (some ⟨w.heap.size + 1, 2, none⟩) | 13 => u = .slice A4 m4 c4 | _ => True) (HvW wb (fun i wz u => (i = 4 → IsNew (w.heap.size + 1 + 1 + 1) wz u (x1 * y2) KT) ∧ (i = 9 → IsNew (w.heap.size + 1 + 1 + 1) wz u (x2 * y1) KT) ∧ (i = 14 → IsNew (w.heap.size + 1 + 1 + 1) wz u (y1 * y2) KT) ∧ (i = 15 → IsNew (w.heap.size + 1 + 1 + 1) wz u (x1 * y2) KT) ∧ (i = 16 → IsNew (w.heap.size + 1 + 1 + 1) wz u (x2 * y1) KT) ∧ (i = 17 → IsNew (w.heap.size + 1 + 1 + 1) wz u (y1 * y2) KT) ∧ True)) (by kernel_rfl) (by kernel_rfl) (by kernel_rfl) ?_ ?_ ?_
  · exact HvW.start _ _
  · refine ⟨?_, ?_, ?_, ?_, ?_, ?_, ?_, ?_, ?_, ?_, ?_, ?_, ?_, ?_, ?_, ?_, ?_, ?_, trivial⟩
    · intro r a w' hf hg hW hr hd K hK
      refine wpOp_of rfl rfl ?_
      have e0 : a.tmps.getD 2 undef = .pointer (some ⟨w.heap.size, 0, none⟩) := hf.evalFree (by kernel_rfl)
      go_simp
      exact hK _ _ rfl (hW.upd 0 _ ⟨fun e => absurd e (by decide), fun e => absurd e (by decide), fun e => absurd e (by decide), fun e => absurd e (by decide), fun e => absurd e (by decide), fun e => absurd e (by decide), trivial⟩)
    · intro r a w' hf hg hW hr hd K hK
      refine wpOp_of rfl rfl ?_
      refine hf.depE hg hd 0 18 (by kernel_rfl) fun u0 e0 g0 h0 => ?_
      replace g0 : u0 = .pointer (some ⟨w.heap.size, 1, none⟩) := g0
      subst g0
      have z0 := hW.kp.cell a1 id
      go_simp
      exact hK _ _ rfl (hW.upd 1 _ ⟨fun e => absurd e (by decide), fun e => absurd e (by decide), fun e => absurd e (by decide), fun e => absurd e (by decide), fun e => absurd e (by decide), fun e => absurd e (by decide), trivial⟩)
    · intro r a w' hf hg hW hr hd K hK
      refine wpOp_of rfl rfl ?_
      have e0 : a.tmps.getD 3 undef = .pointer (some ⟨w.heap.size + 1, 0, none⟩) := hf.evalFree (by kernel_rfl)
      go_simp
      exact hK _ _ rfl (hW.upd 2 _ ⟨fun e => absurd e (by decide), fun e => absurd e (by decide), fun e => absurd e (by decide), fun e => absurd e (by decide), fun e => absurd e (by decide), fun e => absurd e (by decide), trivial⟩)
    · intro r a w' hf hg hW hr hd K hK
      refine wpOp_of rfl rfl ?_
      refine hf.depE hg hd 2 20 (by kernel_rfl) fun u0 e0 g0 h0 => ?_
      replace g0 : u0 = .pointer (some ⟨w.heap.size + 1, 2, none⟩) := g0
      subst g0
      have z0 := hW.kp.cell b2 id
      go_simp
      exact hK _ _ rfl (hW.upd 3 _ ⟨fun e => absurd e (by decide), fun e => absurd e (by decide), fun e => absurd e (by decide), fun e => absurd e (by decide), fun e => absurd e (by decide), fun e => absurd e (by decide), trivial⟩)
    · intro r a w' hf hg hW hr hd K hK
      refine wpOp_of rfl rfl ?_
      refine hf.depE hg hd 1 19 (by kernel_rfl) fun u0 e0 g0 h0 => ?_
      replace g0 : u0 = .slice A1 m1 c1 := g0
      subst g0
      refine hf.depE hg hd 3 21 (by kernel_rfl) fun u1 e1 g1 h1 => ?_
      replace g1 : u1 = .slice A4 m4 c4 := g1
      subst g1
      go_simp
      with_reducible refine (T1.out _ (KB.out.tr hW.kp)).mono ?_
      rintro e w'' ⟨z, rfl, hz, k⟩
      exact hK _ _ trivial ((hW.call FS.out k).upd 4 _ ⟨fun _ => hz.mono (Nat.le_trans SB.out hW.kp.size), fun e => absurd e (by decide), fun e => absurd e (by decide), fun e => absurd e (by decide), fun e => absurd e (by decide), fun e => absurd e (by decide), trivial⟩)
    · intro r a w' hf hg hW hr hd K hK
      refine wpOp_of rfl rfl ?_
      have e0 : a.tmps.getD 3 undef = .pointer (some ⟨w.heap.size + 1, 0, none⟩) := hf.evalFree (by kernel_rfl)
      go_simp
      exact hK _ _ rfl (hW.upd 5 _ ⟨fun e => absurd e (by decide), fun e => absurd e (by decide), fun e => absurd e (by decide), fun e => absurd e (by decide), fun e => absurd e (by decide), fun e => absurd e (by decide), trivial⟩)
    · intro r a w' hf hg hW hr hd K hK
      refine wpOp_of rfl rfl ?_
      refine hf.depE hg hd 5 23 (by kernel_rfl) fun u0 e0 g0 h0 => ?_
      replace g0 : u0 = .pointer (some ⟨w.heap.size + 1, 1, none⟩) := g0
      subst g0
      have z0 := hW.kp.cell b1 id
      go_simp
      exact hK _ _ rfl (hW.upd 6 _ ⟨fun e => absurd e (by decide), fun e => absurd e (by decide), fun e => absurd e (by decide), fun e => absurd e (by decide), fun e => absurd e (by decide), fun e => absurd e (by decide), trivial⟩)
    · intro r a w' hf hg hW hr hd K hK
      refine wpOp_of rfl rfl ?_
      have e0 : a.tmps.getD 2 undef = .pointer (some ⟨w.heap.size, 0, none⟩) := hf.evalFree (by kernel_rfl)
      go_simp
      exact hK _ _ rfl (hW.upd 7 _ ⟨fun e => absurd e (by decide), fun e => absurd e (by decide), fun e => absurd e (by decide), fun e => absurd e (by decide), fun e => absurd e (by decide), fun e => absurd e (by decide), trivial⟩)
    · intro r a w' hf hg hW hr hd K hK
      refine wpOp_of rfl rfl ?_
      refine hf.depE hg hd 7 25 (by kernel_rfl) fun u0 e0 g0 h0 => ?_
      replace g0 : u0 = .pointer (some ⟨w.heap.size, 2, none⟩) := g0
      subst g0
      have z0 := hW.kp.cell a2 id
      go_simp
      exact hK _ _ rfl (hW.upd 8 _ ⟨fun e => absurd e (by decide), fun e => absurd e (by decide), fun e => absurd e (by decide), fun e => absurd e (by decide), fun e => absurd e (by decide), fun e => absurd e (by decide), trivial⟩)
    · intro r a w' hf hg hW hr hd K hK
      refine wpOp_of rfl rfl ?_
      refine hf.depE hg hd 6 24 (by kernel_rfl) fun u0 e0 g0 h0 => ?_
      replace g0 : u0 = .slice A3 m3 c3 := g0
      subst g0
      refine hf.depE hg hd 8 26 (by kernel_rfl) fun u1 e1 g1 h1 => ?_
      replace g1 : u1 = .slice A2 m2 c2 := g1
      subst g1
      go_simp
      with_reducible refine (T2.out _ (KB.out.tr hW.kp)).mono ?_
      rintro e w'' ⟨z, rfl, hz, k⟩
      exact hK _ _ trivial ((hW.call FS.out k).upd 9 _ ⟨fun e => absurd e (by decide), fun _ => hz.mono (Nat.le_trans SB.out hW.kp.size), fun e => absurd e (by decide), fun e => absurd e (by decide), fun e => absurd e (by decide), fun e => absurd e (by decide), trivial⟩)
    · intro r a w' hf hg hW hr hd K hK
      refine wpOp_of rfl rfl ?_
      have e0 : a.tmps.getD 2 undef = .pointer (some ⟨w.heap.size, 0, none⟩) := hf.evalFree (by kernel_rfl)
      go_simp
      exact hK _ _ rfl (hW.upd 10 _ ⟨fun e => absurd e (by decide), fun e => absurd e (by decide), fun e => absurd e (by decide), fun e => absurd e (by decide), fun e => absurd e (by decide), fun e => absurd e (by decide), trivial⟩)
    · intro r a w' hf hg hW hr hd K hK
      refine wpOp_of rfl rfl ?_
      refine hf.depE hg hd 10 28 (by kernel_rfl) fun u0 e0 g0 h0 => ?_
      replace g0 : u0 = .pointer (some ⟨w.heap.size, 2, none⟩) := g0
      subst g0
      have z0 := hW.kp.cell a2 id
      go_simp
      exact hK _ _ rfl (hW.upd 11 _ ⟨fun e => absurd e (by decide), fun e => absurd e (by decide), fun e => absurd e (by decide), fun e => absurd e (by decide), fun e => absurd e (by decide), fun e => absurd e (by decide), trivial⟩)
    · intro r a w' hf hg hW hr hd K hK
      refine wpOp_of rfl rfl ?_
      have e0 : a.tmps.getD 3 undef = .pointer (some ⟨w.heap.size + 1, 0, none⟩) := hf.evalFree (by kernel_rfl)
      go_simp
      exact hK _ _ rfl (hW.upd 12 _ ⟨fun e => absurd e (by decide), fun e => absurd e (by decide), fun e => absurd e (by decide), fun e => absurd e (by decide), fun e => absurd e (by decide), fun e => absurd e (by decide), trivial⟩)
    · intro r a w' hf hg hW hr hd K hK
      refine wpOp_of rfl rfl ?_
      refine hf.depE hg hd 12 30 (by kernel_rfl) fun u0 e0 g0 h0 => ?_
      replace g0 : u0 = .pointer (some ⟨w.heap.size + 1, 2, none⟩) := g0
      subst g0
      have z0 := hW.kp.cell b2 id
      go_simp
      exact hK _ _ rfl (hW.upd 13 _ ⟨fun e => absurd e (by decide), fun e => absurd e (by decide), fun e => absurd e (by decide), fun e => absurd e (by decide), fun e => absurd e (by decide), fun e => absurd e (by decide), trivial⟩)
    · intro r a w' hf hg hW hr hd K hK
      refine wpOp_of rfl rfl ?_
      refine hf.depE hg hd 11 29 (by kernel_rfl) fun u0 e0 g0 h0 => ?_
      replace g0 : u0 = .slice A2 m2 c2 := g0
      subst g0
      refine hf.depE hg hd 13 31 (by kernel_rfl) fun u1 e1 g1 h1 => ?_
      replace g1 : u1 = .slice A4 m4 c4 := g1
      subst g1
      go_simp
      with_reducible refine (T3.out _ (KB.out.tr hW.kp)).mono ?_
      rintro e w'' ⟨z, rfl, hz, k⟩
      exact hK _ _ trivial ((hW.call FS.out k).upd 14 _ ⟨fun e => absurd e (by decide), fun e => absurd e (by decide), fun _ => hz.mono (Nat.le_trans SB.out hW.kp.size), fun e => absurd e (by decide), fun e => absurd e (by decide), fun e => absurd e (by decide), trivial⟩)
    · intro r a w' hf hg hW hr hd K hK
      refine wpOp_of rfl rfl ?_
      refine hf.depE hg hd 4 22 (by kernel_rfl) fun u0 e0 g0 h0 => ?_
      have f0 := (hW.hv 4 u0 h0).1 rfl
      go_simp
      exact hK _ _ trivial (hW.upd 15 _ ⟨fun e => absurd e (by decide), fun e => absurd e (by decide), fun e => absurd e (by decide), fun _ => f0, fun e => absurd e (by decide), fun e => absurd e (by decide), trivial⟩)
    · intro r a w' hf hg hW hr hd K hK
      refine wpOp_of rfl rfl ?_
      refine hf.depE hg hd 9 27 (by kernel_rfl) fun u0 e0 g0 h0 => ?_
      have f0 := (hW.hv 9 u0 h0).2.1 rfl
      go_simp
      exact hK _ _ trivial (hW.upd 16 _ ⟨fun e => absurd e (by decide), fun e => absurd e (by decide), fun e => absurd e (by decide), fun e => absurd e (by decide), fun _ => f0, fun e => absurd e (by decide), trivial⟩)
    · intro r a w' hf hg hW hr hd K hK
      refine wpOp_of rfl rfl ?_
      refine hf.depE hg hd 14 32 (by kernel_rfl) fun u0 e0 g0 h0 => ?_
      have f0 := (hW.hv 14 u0 h0).2.2.1 rfl
      go_simp
      exact hK _ _ trivial (hW.upd 17 _ ⟨fun e => absurd e (by decide), fun e => absurd e (by decide), fun e => absurd e (by decide), fun e => absurd e (by decide), fun e => absurd e (by decide), fun _ => f0, trivial⟩)
  intro r' w3 hg hW hr'
  have hkN := hW.kp
  obtain ⟨q15, hq15⟩ : ∃ u, r' 15 = some u := Option.ne_none_iff_exists'.1 (hr' 15 (by decide))
  have hF15 := (hW.hv 15 q15 hq15).2.2.2.1 rfl
  obtain ⟨q16, hq16⟩ : ∃ u, r' 16 = some u := Option.ne_none_iff_exists'.1 (hr' 16 (by decide))
  have hF16 := (hW.hv 16 q16 hq16).2.2.2.2.1 rfl
  obtain ⟨q17, hq17⟩ : ∃ u, r' 17 = some u := Option.ne_none_iff_exists'.1 (hr' 17 (by decide))
  have hF17 := (hW.hv 17 q17 hq17).2.2.2.2.2.1 rfl
  simp only [List.length_cons, List.length_nil, Nat.reduceAdd, List.range_succ, List.range_zero, List.nil_append, List.cons_append, List.map_cons, List.map_nil, putAll, Act.put, List.setIfInBounds_toArray, List.set_cons_succ, List.set_cons_zero, hq15, hq16, hq17, Option.getD_some]
  clear hg hW hr' FS hq15 hq16 hq17
  have KD := Lib.hid (KB.out.tr hkN)
  have HB4 := Lib.hid (hkN.heap HB3.out id)
  have SC := Lib.hid (Nat.le_trans SB.out hkN.size)
  replace a0 := hkN.cell a0 id
  replace b0 := hkN.cell b0 id
  have P7 := Lib.hid hF15
  have P8 := Lib.hid hF16
  have P9 := Lib.hid hF17
  have D3 := Lib.hid (fun (w0 : World) (hk0 : Kp (Kq.One (w.heap.size + 1 + 1)) w3 w0) => (P9.out.kpS hk0).nat.le (show KT ≤ KK by have := HKK.out; omega))
  clear a1 a2 b1 b2 hkN hF15 hF16 hF17 HB3 SB T1 T2 T3 KB
  have SB := SC
  generalize w3 = wd at *
  generalize q15 = p7 at *
  generalize q16 = p8 at *
  generalize q17 = p9 at *
  have OR := Lib.hid (order_is p7 p8 _ _ KT KT wd P7.out.nat P8.out.nat (by have := HKK.out; omega) (by have := HKK.out; omega))
  by_cases hs : s1 = s2
  · subst hs
    have hl := hlow.out
    rw [if_pos rfl] at hl
    clear OR hlow
    have hss : (s1 == s1) = true := by simp
    have LW := Lib.hid (fun (w0 : World) (x y : Value) hx hy => lowest_is s1 x y (x1 * y2 + x2 * y1) (y1 * y2) KK w0 hx hy HKK.out.2 hdp.out)
    rw [← hl] at LW
    clear hl
    have PL := Lib.hid (fun (w0 : World) (hk0 : Kp (Kq.One (w.heap.size + 1 + 1)) wd w0) => plus_new p7 p8 _ _ KT KT KK w0 (P7.out.kpS hk0).nat (P8.out.kpS hk0).nat (by have := HKK.out; omega) (by have := HKK.out; omega) (by have := HKK.out; omega))
    obtain ⟨XX, hXX⟩ : ∃ X, X = x1 * y2 + x2 * y1 := ⟨_, rfl⟩
    rw [← hXX] at LW PL
    clear hXX
    go_wp2_with fail
    have FS : Stab (fun i wz u => (i = 4 → IsNew (w.heap.size + 1 + 1 + 1) wz u (XX) KK) ∧ (i = 6 → TupQ (w.heap.size + 1 + 1 + 1) wz u qq KK) ∧ (i = 7 → QuoNew (w.heap.size + 1 + 1 + 1) wz u qq KK) ∧ True) := fun i u wz wz' k h => ⟨fun e => IsNew.no (h.1 e) k, fun e => TupQ.no (h.2.1 e) k, fun e => QuoNew.no (h.2.2.1 e) k, trivial⟩
    have FB : ∀ (i : Nat) (u : Value) (wz wz' : World), Kp (Kq.One (w.heap.size + 1 + 1)) wz wz' → ((fun i wz u => (i = 4 → IsNew (w.heap.size + 1 + 1 + 1) wz u (XX) KK) ∧ (i = 6 → TupQ (w.heap.size + 1 + 1 + 1) wz u qq KK) ∧ (i = 7 → QuoNew (w.heap.size + 1 + 1 + 1) wz u qq KK) ∧ True : Nat → World → Value → Prop) i wz u) → ((fun i wz u => (i = 4 → IsNew (w.heap.size + 1 + 1 + 1) wz u (XX) KK) ∧ (i = 6 → TupQ (w.heap.size + 1 + 1 + 1) wz u qq KK) ∧ (i = 7 → QuoNew (w.heap.size + 1 + 1 + 1) wz u qq KK) ∧ True : Nat → World → Value → Prop) i wz' u) := fun i u wz wz' k h => ⟨fun e => IsNew.kpS (h.1 e) k, fun e => TupQ.kpS (h.2.1 e) k, fun e => QuoNew.kpS (h.2.2.1 e) k, trivial⟩
    have FS := Lib.hid FS
    have FB := Lib.hid FB
    refine wp_region_each (fun i u => match i with | 0 => u = .pointer (some ⟨w.heap.size, 0, none⟩) | 1 => u = .bool s1 | 2 => u = p7 | 3 => u = p8 | 5 => u = p9 | 8 => u = .int .i64 0 | 10 => u = .int .i64 0 | _ => True) (HvS wd (w.heap.size + 1 + 1) 76 #[.bool false, .slice none 0 0, .slice none 0 0] 9 7 (fun i wz u => (i = 4 → IsNew (w.heap.size + 1 + 1 + 1) wz u (XX) KK) ∧ (i = 6 → TupQ (w.heap.size + 1 + 1 + 1) wz u qq KK) ∧ (i = 7 → QuoNew (w.heap.size + 1 + 1 + 1) wz u qq KK) ∧ True)) (by kernel_rfl) (by kernel_rfl) (by kernel_rfl) ?_ ?_ ?_
    · exact HvS.start HB4.out
    · refine ⟨?_, ?_, ?_, ?_, ?_, ?_, ?_, ?_, ?_, ?_, ?_, trivial⟩
      · intro r a w' hf hg hW hr hd K hK
        refine wpOp_of rfl rfl ?_
        have e0 : a.tmps.getD 2 undef = .pointer (some ⟨w.heap.size, 0, none⟩) := hf.evalFree (by kernel_rfl)
        go_simp
        exact hK _ _ rfl (hW.upd 0 _ hr (by decide) ⟨fun e => absurd e (by decide), fun e => absurd e (by decide), fun e => absurd e (by decide), trivial⟩)
      · intro r a w' hf hg hW hr hd K hK
        refine wpOp_of rfl rfl ?_
        refine hf.depE hg hd 0 38 (by kernel_rfl) fun u0 e0 g0 h0 => ?_
        replace g0 : u0 = .pointer (some ⟨w.heap.size, 0, none⟩) := g0
        subst g0
        have z0 := hW.kp.cell a0 nA.out
        go_simp
        exact hK _ _ rfl (hW.upd 1 _ hr (by decide) ⟨fun e => absurd e (by decide), fun e => absurd e (by decide), fun e => absurd e (by decide), trivial⟩)
      · intro r a w' hf hg hW hr hd K hK
        refine wpOp_of rfl rfl ?_
        have e0 : a.tmps.getD 7 undef = p7 := hf.evalFree (by kernel_rfl)
        go_simp
        exact hK _ _ rfl (hW.upd 2 _ hr (by decide) ⟨fun e => absurd e (by decide), fun e => absurd e (by decide), fun e => absurd e (by decide), trivial⟩)
      · intro r a w' hf hg hW hr hd K hK
        refine wpOp_of rfl rfl ?_
        have e0 : a.tmps.getD 8 undef = p8 := hf.evalFree (by kernel_rfl)
        go_simp
        exact hK _ _ rfl (hW.upd 3 _ hr (by decide) ⟨fun e => absurd e (by decide), fun e => absurd e (by decide), fun e => absurd e (by decide), trivial⟩)
      · intro r a w' hf hg hW hr hd K hK
        refine wpOp_of rfl rfl ?_
        refine hf.depE hg hd 2 40 (by kernel_rfl) fun u0 e0 g0 h0 => ?_
        replace g0 : u0 = p7 := g0
        subst g0
        refine hf.depE hg hd 3 41 (by kernel_rfl) fun u1 e1 g1 h1 => ?_
        replace g1 : u1 = p8 := g1
        subst g1
        go_simp
        with_reducible refine (PL.out _ hW.kp).mono ?_
        rintro e w'' ⟨z, rfl, hz, k⟩
        exact hK _ _ trivial ((hW.call FS.out k).upd 4 _ hr (by decide) ⟨fun _ => hz.mono (Nat.le_trans SC.out hW.kp.size), fun e => absurd e (by decide), fun e => absurd e (by decide), trivial⟩)
      · intro r a w' hf hg hW hr hd K hK
        refine wpOp_of rfl rfl ?_
        have e0 : a.tmps.getD 9 undef = p9 := hf.evalFree (by kernel_rfl)
        go_simp
        exact hK _ _ rfl (hW.upd 5 _ hr (by decide) ⟨fun e => absurd e (by decide), fun e => absurd e (by decide), fun e => absurd e (by decide), trivial⟩)
      · intro r a w' hf hg hW hr hd K hK
        refine wpOp_of rfl rfl ?_
        refine hf.depE hg hd 1 39 (by kernel_rfl) fun u0 e0 g0 h0 => ?_
        replace g0 : u0 = .bool s1 := g0
        subst g0
        refine hf.depE hg hd 4 42 (by kernel_rfl) fun u1 e1 g1 h1 => ?_
        have f1 := (hW.hv 4 u1 h1).1 rfl
        refine hf.depE hg hd 5 43 (by kernel_rfl) fun u2 e2 g2 h2 => ?_
        replace g2 : u2 = p9 := g2
        subst g2
        go_simp
        with_reducible refine (LW.out _ _ _ f1.nat (D3.out _ hW.kp)).mono ?_
        rintro e w'' ⟨z, rfl, hz, k⟩
        exact hK _ _ trivial ((hW.call FS.out k).upd 6 _ hr (by decide) ⟨fun e => absurd e (by decide), fun _ => ⟨z, rfl, hz.mono (Nat.le_trans SB.out hW.kp.size)⟩, fun e => absurd e (by decide), trivial⟩)
      · intro r a w' hf hg hW hr hd K hK
        refine wpOp_of rfl rfl ?_
        refine hf.depE hg hd 6 44 (by kernel_rfl) fun u0 e0 g0 h0 => ?_
        have f0 := (hW.hv 6 u0 h0).2.1 rfl
        obtain ⟨z, rfl, hz⟩ := f0
        go_simp
        exact hK _ _ trivial (hW.upd 7 _ hr (by decide) ⟨fun e => absurd e (by decide), fun e => absurd e (by decide), fun _ => hz, trivial⟩)
      · intro r a w' hf hg hW hr hd K hK
        refine wpOp_of rfl rfl ?_
        refine hf.depE hg hd 6 44 (by kernel_rfl) fun u0 e0 g0 h0 => ?_
        have f0 := (hW.hv 6 u0 h0).2.1 rfl
        obtain ⟨z, rfl, hz⟩ := f0
        go_simp
        exact hK _ _ rfl (hW.upd 8 _ hr (by decide) ⟨fun e => absurd e (by decide), fun e => absurd e (by decide), fun e => absurd e (by decide), trivial⟩)
      · intro r a w' hf hg hW hr hd K hK
        refine wpOp_of rfl rfl ?_
        have e0 : a.tmps.getD 4 undef = .pointer (some ⟨w.heap.size + 1 + 1, 0, none⟩) := hf.evalFree (by kernel_rfl)
        refine hf.depE hg hd 7 45 (by kernel_rfl) fun u1 e1 g1 h1 => ?_
        have f1 := (hW.hv 7 u1 h1).2.2.1 rfl
        obtain ⟨n, d, rfl, hn, hd⟩ := f1
        obtain ⟨An, mn, cn, _, rfl, _⟩ := hn.1.pos
        obtain ⟨Ad, md, cd, _, rfl, _⟩ := hd.1.pos
        obtain ⟨x0, x1, x2, y0, y1, y2⟩ := three_cells (hW.b0 hr)
        go_simp
        exact hK undef _ trivial (hW.store FB.out (by decide) h1 (kp_setQ _ _ _ _ _) (setQ_at (hW.b0 hr) _ _ _) _ ⟨fun e => absurd e (by decide), fun e => absurd e (by decide), fun e => absurd e (by decide), trivial⟩)
      · intro r a w' hf hg hW hr hd K hK
        refine wpOp_of rfl rfl ?_
        refine hf.depE hg hd 8 46 (by kernel_rfl) fun u0 e0 g0 h0 => ?_
        replace g0 : u0 = .int .i64 0 := g0
        subst g0
        go_simp
        exact hK _ _ rfl (hW.upd 10 _ hr (by decide) ⟨fun e => absurd e (by decide), fun e => absurd e (by decide), fun e => absurd e (by decide), trivial⟩)
    intro r' w3 hg hW hr'
    have hkN := hW.kp
    obtain ⟨q7, hq7⟩ : ∃ u, r' 7 = some u := Option.ne_none_iff_exists'.1 (hr' 7 (by decide))
    have hF7 := (hW.hv 7 q7 hq7).2.2.1 rfl
    obtain ⟨q10, hq10⟩ : ∃ u, r' 10 = some u := Option.ne_none_iff_exists'.1 (hr' 10 (by decide))
    have hk10 := hg 10 q10 hq10
    replace hk10 : q10 = .int .i64 0 := hk10
    subst hk10
    obtain ⟨cs, hcs, hB⟩ := hW.b1 (hr' 9 (by decide))
    simp only [List.length_cons, List.length_nil, Nat.reduceAdd, List.range_succ, List.range_zero, List.nil_append, List.cons_append, List.map_cons, List.map_nil, putAll, Act.put, List.setIfInBounds_toArray, List.set_cons_succ, List.set_cons_zero, hq7, hq10, Option.getD_some]
    clear hg hW hr' FS FB hq10
    rw [hq7] at hcs
    injection hcs with hcs
    subst hcs
    obtain ⟨n, d, e, hn, hd⟩ := hF7
    injection e with e
    subst e
    obtain ⟨z0, z1, z2, _⟩ := three_cells hB
    have F := Lib.hid (show QuoNew w.heap.size w3 (.agg #[.bool (negQ qq), n, d]) qq KK from ⟨n, d, rfl, hn.mono (by omega), hd.mono (by omega)⟩)
    have KE := Lib.hid (KD.out.trans hkN (T := Kq.One (w.heap.size + 1 + 1)) (S := No) (fun k hk e => by unfold Kq.One at e; omega))
    clear hn hd hkN hB
    go_wp2_with fail
    exact bodyPost_ret (v := .tuple #[.agg #[.bool (negQ qq), n, d], .int .i64 0]) (by simp [results, Tryz.results99, go_sem, z0, z1, z2]) rfl ⟨_, rfl, F.out, KE.out⟩
  · have hss : (s1 == s2) = false := by rw [beq_eq_false_iff_ne]; exact hs
    have hl := hlow.out
    rw [if_neg hs] at hl
    clear hlow
    by_cases hle : x2 * y1 ≤ x1 * y2
    · rw [if_pos hle] at hl
      have hge := cmpN_ge hle
      generalize cmpN (x1 * y2) (x2 * y1) = cc at *
      go_wp2_with fail
      refine OR.out.mono ?_
      rintro _ w4 ⟨rfl, rfl⟩
      have LW := Lib.hid (fun (w0 : World) (x y : Value) hx hy => lowest_is s1 x y (x1 * y2 - x2 * y1) (y1 * y2) KK w0 hx hy HKK.out.2 hdp.out)
      rw [← hl] at LW
      clear hl
      have MI := Lib.hid (fun (w0 : World) (hk0 : Kp (Kq.One (w.heap.size + 1 + 1)) wd w0) => minus_new p7 p8 _ _ KT KT KK w0 (P7.out.kpS hk0).nat (P8.out.kpS hk0).nat (by have := HKK.out; omega) (by have := HKK.out; omega) (by have := HKK.out; omega) (by omega))
      obtain ⟨XX, hXX⟩ : ∃ X, X = x1 * y2 - x2 * y1 := ⟨_, rfl⟩
      rw [← hXX] at LW MI
      clear hXX
      go_wp2_with fail
      have FS : Stab (fun i wz u => (i = 4 → IsNew (w.heap.size + 1 + 1 + 1) wz u (XX) KK) ∧ (i = 6 → TupQ (w.heap.size + 1 + 1 + 1) wz u qq KK) ∧ (i = 7 → QuoNew (w.heap.size + 1 + 1 + 1) wz u qq KK) ∧ True) := fun i u wz wz' k h => ⟨fun e => IsNew.no (h.1 e) k, fun e => TupQ.no (h.2.1 e) k, fun e => QuoNew.no (h.2.2.1 e) k, trivial⟩
      have FB : ∀ (i : Nat) (u : Value) (wz wz' : World), Kp (Kq.One (w.heap.size + 1 + 1)) wz wz' → ((fun i wz u => (i = 4 → IsNew (w.heap.size + 1 + 1 + 1) wz u (XX) KK) ∧ (i = 6 → TupQ (w.heap.size + 1 + 1 + 1) wz u qq KK) ∧ (i = 7 → QuoNew (w.heap.size + 1 + 1 + 1) wz u qq KK) ∧ True : Nat → World → Value → Prop) i wz u) → ((fun i wz u => (i = 4 → IsNew (w.heap.size + 1 + 1 + 1) wz u (XX) KK) ∧ (i = 6 → TupQ (w.heap.size + 1 + 1 + 1) wz u qq KK) ∧ (i = 7 → QuoNew (w.heap.size + 1 + 1 + 1) wz u qq KK) ∧ True : Nat → World → Value → Prop) i wz' u) := fun i u wz wz' k h => ⟨fun e => IsNew.kpS (h.1 e) k, fun e => TupQ.kpS (h.2.1 e) k, fun e => QuoNew.kpS (h.2.2.1 e) k, trivial⟩
      have FS := Lib.hid FS
      have FB := Lib.hid FB
      refine wp_region_each (fun i u => match i with | 0 => u = .pointer (some ⟨w.heap.size, 0, none⟩) | 1 => u = .bool s1 | 2 => u = p7 | 3 => u = p8 | 5 => u = p9 | 8 => u = .int .i64 0 | 10 => u = .int .i64 0 | _ => True) (HvS wd (w.heap.size + 1 + 1) 76 #[.bool false, .slice none 0 0, .slice none 0 0] 9 7 (fun i wz u => (i = 4 → IsNew (w.heap.size + 1 + 1 + 1) wz u (XX) KK) ∧ (i = 6 → TupQ (w.heap.size + 1 + 1 + 1) wz u qq KK) ∧ (i = 7 → QuoNew (w.heap.size + 1 + 1 + 1) wz u qq KK) ∧ True)) (by kernel_rfl) (by kernel_rfl) (by kernel_rfl) ?_ ?_ ?_
      · exact HvS.start HB4.out
      · refine ⟨?_, ?_, ?_, ?_, ?_, ?_, ?_, ?_, ?_, ?_, ?_, trivial⟩
        · intro r a w' hf hg hW hr hd K hK
          refine wpOp_of rfl rfl ?_
          have e0 : a.tmps.getD 2 undef = .pointer (some ⟨w.heap.size, 0, none⟩) := hf.evalFree (by kernel_rfl)
          go_simp
          exact hK _ _ rfl (hW.upd 0 _ hr (by decide) ⟨fun e => absurd e (by decide), fun e => absurd e (by decide), fun e => absurd e (by decide), trivial⟩)
        · intro r a w' hf hg hW hr hd K hK
          refine wpOp_of rfl rfl ?_
          refine hf.depE hg hd 0 51 (by kernel_rfl) fun u0 e0 g0 h0 => ?_
          replace g0 : u0 = .pointer (some ⟨w.heap.size, 0, none⟩) := g0
          subst g0
          have z0 := hW.kp.cell a0 nA.out
          go_simp
          exact hK _ _ rfl (hW.upd 1 _ hr (by decide) ⟨fun e => absurd e (by decide), fun e => absurd e (by decide), fun e => absurd e (by decide), trivial⟩)
        · intro r a w' hf hg hW hr hd K hK
          refine wpOp_of rfl rfl ?_
          have e0 : a.tmps.getD 7 undef = p7 := hf.evalFree (by kernel_rfl)
          go_simp
          exact hK _ _ rfl (hW.upd 2 _ hr (by decide) ⟨fun e => absurd e (by decide), fun e => absurd e (by decide), fun e => absurd e (by decide), trivial⟩)
        · intro r a w' hf hg hW hr hd K hK
          refine wpOp_of rfl rfl ?_
          have e0 : a.tmps.getD 8 undef = p8 := hf.evalFree (by kernel_rfl)
          go_simp
          exact hK _ _ rfl (hW.upd 3 _ hr (by decide) ⟨fun e => absurd e (by decide), fun e => absurd e (by decide), fun e => absurd e (by decide), trivial⟩)
        · intro r a w' hf hg hW hr hd K hK
          refine wpOp_of rfl rfl ?_
          refine hf.depE hg hd 2 53 (by kernel_rfl) fun u0 e0 g0 h0 => ?_
          replace g0 : u0 = p7 := g0
          subst g0
          refine hf.depE hg hd 3 54 (by kernel_rfl) fun u1 e1 g1 h1 => ?_
          replace g1 : u1 = p8 := g1
          subst g1
          go_simp
          with_reducible refine (MI.out _ hW.kp).mono ?_
          rintro e w'' ⟨z, rfl, hz, k⟩
          exact hK _ _ trivial ((hW.call FS.out k).upd 4 _ hr (by decide) ⟨fun _ => hz.mono (Nat.le_trans SC.out hW.kp.size), fun e => absurd e (by decide), fun e => absurd e (by decide), trivial⟩)
        · intro r a w' hf hg hW hr hd K hK
          refine wpOp_of rfl rfl ?_
          have e0 : a.tmps.getD 9 undef = p9 := hf.evalFree (by kernel_rfl)
          go_simp
          exact hK _ _ rfl (hW.upd 5 _ hr (by decide) ⟨fun e => absurd e (by decide), fun e => absurd e (by decide), fun e => absurd e (by decide), trivial⟩)
        · intro r a w' hf hg hW hr hd K hK
          refine wpOp_of rfl rfl ?_
          refine hf.depE hg hd 1 52 (by kernel_rfl) fun u0 e0 g0 h0 => ?_
          replace g0 : u0 = .bool s1 := g0
          subst g0
          refine hf.depE hg hd 4 55 (by kernel_rfl) fun u1 e1 g1 h1 => ?_
          have f1 := (hW.hv 4 u1 h1).1 rfl
          refine hf.depE hg hd 5 56 (by kernel_rfl) fun u2 e2 g2 h2 => ?_
          replace g2 : u2 = p9 := g2
          subst g2
          go_simp
          with_reducible refine (LW.out _ _ _ f1.nat (D3.out _ hW.kp)).mono ?_
          rintro e w'' ⟨z, rfl, hz, k⟩
          exact hK _ _ trivial ((hW.call FS.out k).upd 6 _ hr (by decide) ⟨fun e => absurd e (by decide), fun _ => ⟨z, rfl, hz.mono (Nat.le_trans SB.out hW.kp.size)⟩, fun e => absurd e (by decide), trivial⟩)
        · intro r a w' hf hg hW hr hd K hK
          refine wpOp_of rfl rfl ?_
          refine hf.depE hg hd 6 57 (by kernel_rfl) fun u0 e0 g0 h0 => ?_
          have f0 := (hW.hv 6 u0 h0).2.1 rfl
          obtain ⟨z, rfl, hz⟩ := f0
          go_simp
          exact hK _ _ trivial (hW.upd 7 _ hr (by decide) ⟨fun e => absurd e (by decide), fun e => absurd e (by decide), fun _ => hz, trivial⟩)
        · intro r a w' hf hg hW hr hd K hK
          refine wpOp_of rfl rfl ?_
          refine hf.depE hg hd 6 57 (by kernel_rfl) fun u0 e0 g0 h0 => ?_
          have f0 := (hW.hv 6 u0 h0).2.1 rfl
          obtain ⟨z, rfl, hz⟩ := f0
          go_simp
          exact hK _ _ rfl (hW.upd 8 _ hr (by decide) ⟨fun e => absurd e (by decide), fun e => absurd e (by decide), fun e => absurd e (by decide), trivial⟩)
        · intro r a w' hf hg hW hr hd K hK
          refine wpOp_of rfl rfl ?_
          have e0 : a.tmps.getD 4 undef = .pointer (some ⟨w.heap.size + 1 + 1, 0, none⟩) := hf.evalFree (by kernel_rfl)
          refine hf.depE hg hd 7 58 (by kernel_rfl) fun u1 e1 g1 h1 => ?_
          have f1 := (hW.hv 7 u1 h1).2.2.1 rfl
          obtain ⟨n, d, rfl, hn, hd⟩ := f1
          obtain ⟨An, mn, cn, _, rfl, _⟩ := hn.1.pos
          obtain ⟨Ad, md, cd, _, rfl, _⟩ := hd.1.pos
          obtain ⟨x0, x1, x2, y0, y1, y2⟩ := three_cells (hW.b0 hr)
          go_simp
          exact hK undef _ trivial (hW.store FB.out (by decide) h1 (kp_setQ _ _ _ _ _) (setQ_at (hW.b0 hr) _ _ _) _ ⟨fun e => absurd e (by decide), fun e => absurd e (by decide), fun e => absurd e (by decide), trivial⟩)
        · intro r a w' hf hg hW hr hd K hK
          refine wpOp_of rfl rfl ?_
          refine hf.depE hg hd 8 59 (by kernel_rfl) fun u0 e0 g0 h0 => ?_
          replace g0 : u0 = .int .i64 0 := g0
          subst g0
          go_simp
          exact hK _ _ rfl (hW.upd 10 _ hr (by decide) ⟨fun e => absurd e (by decide), fun e => absurd e (by decide), fun e => absurd e (by decide), trivial⟩)
      intro r' w3 hg hW hr'
      have hkN := hW.kp
      obtain ⟨q7, hq7⟩ : ∃ u, r' 7 = some u := Option.ne_none_iff_exists'.1 (hr' 7 (by decide))
      have hF7 := (hW.hv 7 q7 hq7).2.2.1 rfl
      obtain ⟨q10, hq10⟩ : ∃ u, r' 10 = some u := Option.ne_none_iff_exists'.1 (hr' 10 (by decide))
      have hk10 := hg 10 q10 hq10
      replace hk10 : q10 = .int .i64 0 := hk10
      subst hk10
      obtain ⟨cs, hcs, hB⟩ := hW.b1 (hr' 9 (by decide))
      simp only [List.length_cons, List.length_nil, Nat.reduceAdd, List.range_succ, List.range_zero, List.nil_append, List.cons_append, List.map_cons, List.map_nil, putAll, Act.put, List.setIfInBounds_toArray, List.set_cons_succ, List.set_cons_zero, hq7, hq10, Option.getD_some]
      clear hg hW hr' FS FB hq10
      rw [hq7] at hcs
      injection hcs with hcs
      subst hcs
      obtain ⟨n, d, e, hn, hd⟩ := hF7
      injection e with e
      subst e
      obtain ⟨z0, z1, z2, _⟩ := three_cells hB
      have F := Lib.hid (show QuoNew w.heap.size w3 (.agg #[.bool (negQ qq), n, d]) qq KK from ⟨n, d, rfl, hn.mono (by omega), hd.mono (by omega)⟩)
      have KE := Lib.hid (KD.out.trans hkN (T := Kq.One (w.heap.size + 1 + 1)) (S := No) (fun k hk e => by unfold Kq.One at e; omega))
      clear hn hd hkN hB
      go_wp2_with fail
      exact bodyPost_ret (v := .tuple #[.agg #[.bool (negQ qq), n, d], .int .i64 0]) (by simp [results, Tryz.results99, go_sem, z0, z1, z2]) rfl ⟨_, rfl, F.out, KE.out⟩
    · rw [if_neg hle] at hl
      have hlt := cmpN_lt0 hle
      rw [hlt] at OR
      clear hlt
      go_wp2_with fail
      refine OR.out.mono ?_
      rintro _ w4 ⟨rfl, rfl⟩
      have LW := Lib.hid (fun (w0 : World) (x y : Value) hx hy => lowest_is s2 x y (x2 * y1 - x1 * y2) (y1 * y2) KK w0 hx hy HKK.out.2 hdp.out)
      rw [← hl] at LW
      clear hl
      have MI := Lib.hid (fun (w0 : World) (hk0 : Kp (Kq.One (w.heap.size + 1 + 1)) wd w0) => minus_new p8 p7 _ _ KT KT KK w0 (P8.out.kpS hk0).nat (P7.out.kpS hk0).nat (by have := HKK.out; omega) (by have := HKK.out; omega) (by have := HKK.out; omega) (by omega))
      obtain ⟨XX, hXX⟩ : ∃ X, X = x2 * y1 - x1 * y2 := ⟨_, rfl⟩
      rw [← hXX] at LW MI
      clear hXX
      go_wp2_with fail
      have FS : Stab (fun i wz u => (i = 4 → IsNew (w.heap.size + 1 + 1 + 1) wz u (XX) KK) ∧ (i = 6 → TupQ (w.heap.size + 1 + 1 + 1) wz u qq KK) ∧ (i = 7 → QuoNew (w.heap.size + 1 + 1 + 1) wz u qq KK) ∧ True) := fun i u wz wz' k h => ⟨fun e => IsNew.no (h.1 e) k, fun e => TupQ.no (h.2.1 e) k, fun e => QuoNew.no (h.2.2.1 e) k, trivial⟩
      have FB : ∀ (i : Nat) (u : Value) (wz wz' : World), Kp (Kq.One (w.heap.size + 1 + 1)) wz wz' → ((fun i wz u => (i = 4 → IsNew (w.heap.size + 1 + 1 + 1) wz u (XX) KK) ∧ (i = 6 → TupQ (w.heap.size + 1 + 1 + 1) wz u qq KK) ∧ (i = 7 → QuoNew (w.heap.size + 1 + 1 + 1) wz u qq KK) ∧ True : Nat → World → Value → Prop) i wz u) → ((fun i wz u => (i = 4 → IsNew (w.heap.size + 1 + 1 + 1) wz u (XX) KK) ∧ (i = 6 → TupQ (w.heap.size + 1 + 1 + 1) wz u qq KK) ∧ (i = 7 → QuoNew (w.heap.size + 1 + 1 + 1) wz u qq KK) ∧ True : Nat → World → Value → Prop) i wz' u) := fun i u wz wz' k h => ⟨fun e => IsNew.kpS (h.1 e) k, fun e => TupQ.kpS (h.2.1 e) k, fun e => QuoNew.kpS (h.2.2.1 e) k, trivial⟩
      have FS := Lib.hid FS
      have FB := Lib.hid FB
      refine wp_region_each (fun i u => match i with | 0 => u = .pointer (some ⟨w.heap.size + 1, 0, none⟩) | 1 => u = .bool s2 | 2 => u = p8 | 3 => u = p7 | 5 => u = p9 | 8 => u = .int .i64 0 | 10 => u = .int .i64 0 | _ => True) (HvS wd (w.heap.size + 1 + 1) 76 #[.bool false, .slice none 0 0, .slice none 0 0] 9 7 (fun i wz u => (i = 4 → IsNew (w.heap.size + 1 + 1 + 1) wz u (XX) KK) ∧ (i = 6 → TupQ (w.heap.size + 1 + 1 + 1) wz u qq KK) ∧ (i = 7 → QuoNew (w.heap.size + 1 + 1 + 1) wz u qq KK) ∧ True)) (by kernel_rfl) (by kernel_rfl) (by kernel_rfl) ?_ ?_ ?_
      · exact HvS.start HB4.out
      · refine ⟨?_, ?_, ?_, ?_, ?_, ?_, ?_, ?_, ?_, ?_, ?_, trivial⟩
        · intro r a w' hf hg hW hr hd K hK
          refine wpOp_of rfl rfl ?_
          have e0 : a.tmps.getD 3 undef = .pointer (some ⟨w.heap.size + 1, 0, none⟩) := hf.evalFree (by kernel_rfl)
          go_simp
          exact hK _ _ rfl (hW.upd 0 _ hr (by decide) ⟨fun e => absurd e (by decide), fun e => absurd e (by decide), fun e => absurd e (by decide), trivial⟩)
        · intro r a w' hf hg hW hr hd K hK
          refine wpOp_of rfl rfl ?_
          refine hf.depE hg hd 0 60 (by kernel_rfl) fun u0 e0 g0 h0 => ?_
          replace g0 : u0 = .pointer (some ⟨w.heap.size + 1, 0, none⟩) := g0
          subst g0
          have z0 := hW.kp.cell b0 nB.out
          go_simp
          exact hK _ _ rfl (hW.upd 1 _ hr (by decide) ⟨fun e => absurd e (by decide), fun e => absurd e (by decide), fun e => absurd e (by decide), trivial⟩)
        · intro r a w' hf hg hW hr hd K hK
          refine wpOp_of rfl rfl ?_
          have e0 : a.tmps.getD 8 undef = p8 := hf.evalFree (by kernel_rfl)
          go_simp
          exact hK _ _ rfl (hW.upd 2 _ hr (by decide) ⟨fun e => absurd e (by decide), fun e => absurd e (by decide), fun e => absurd e (by decide), trivial⟩)
        · intro r a w' hf hg hW hr hd K hK
          refine wpOp_of rfl rfl ?_
          have e0 : a.tmps.getD 7 undef = p7 := hf.evalFree (by kernel_rfl)
          go_simp
          exact hK _ _ rfl (hW.upd 3 _ hr (by decide) ⟨fun e => absurd e (by decide), fun e => absurd e (by decide), fun e => absurd e (by decide), trivial⟩)
        · intro r a w' hf hg hW hr hd K hK
          refine wpOp_of rfl rfl ?_
          refine hf.depE hg hd 2 62 (by kernel_rfl) fun u0 e0 g0 h0 => ?_
          replace g0 : u0 = p8 := g0
          subst g0
          refine hf.depE hg hd 3 63 (by kernel_rfl) fun u1 e1 g1 h1 => ?_
          replace g1 : u1 = p7 := g1
          subst g1
          go_simp
          with_reducible refine (MI.out _ hW.kp).mono ?_
          rintro e w'' ⟨z, rfl, hz, k⟩
          exact hK _ _ trivial ((hW.call FS.out k).upd 4 _ hr (by decide) ⟨fun _ => hz.mono (Nat.le_trans SC.out hW.kp.size), fun e => absurd e (by decide), fun e => absurd e (by decide), trivial⟩)
        · intro r a w' hf hg hW hr hd K hK
          refine wpOp_of rfl rfl ?_
          have e0 : a.tmps.getD 9 undef = p9 := hf.evalFree (by kernel_rfl)
          go_simp
          exact hK _ _ rfl (hW.upd 5 _ hr (by decide) ⟨fun e => absurd e (by decide), fun e => absurd e (by decide), fun e => absurd e (by decide), trivial⟩)
        · intro r a w' hf hg hW hr hd K hK
          refine wpOp_of rfl rfl ?_
          refine hf.depE hg hd 1 61 (by kernel_rfl) fun u0 e0 g0 h0 => ?_
          replace g0 : u0 = .bool s2 := g0
          subst g0
          refine hf.depE hg hd 4 64 (by kernel_rfl) fun u1 e1 g1 h1 => ?_
          have f1 := (hW.hv 4 u1 h1).1 rfl
          refine hf.depE hg hd 5 65 (by kernel_rfl) fun u2 e2 g2 h2 => ?_
          replace g2 : u2 = p9 := g2
          subst g2
          go_simp
          with_reducible refine (LW.out _ _ _ f1.nat (D3.out _ hW.kp)).mono ?_
          rintro e w'' ⟨z, rfl, hz, k⟩
          exact hK _ _ trivial ((hW.call FS.out k).upd 6 _ hr (by decide) ⟨fun e => absurd e (by decide), fun _ => ⟨z, rfl, hz.mono (Nat.le_trans SB.out hW.kp.size)⟩, fun e => absurd e (by decide), trivial⟩)
        · intro r a w' hf hg hW hr hd K hK
          refine wpOp_of rfl rfl ?_
          refine hf.depE hg hd 6 66 (by kernel_rfl) fun u0 e0 g0 h0 => ?_
          have f0 := (hW.hv 6 u0 h0).2.1 rfl
          obtain ⟨z, rfl, hz⟩ := f0
          go_simp
          exact hK _ _ trivial (hW.upd 7 _ hr (by decide) ⟨fun e => absurd e (by decide), fun e => absurd e (by decide), fun _ => hz, trivial⟩)
        · intro r a w' hf hg hW hr hd K hK
          refine wpOp_of rfl rfl ?_
          refine hf.depE hg hd 6 66 (by kernel_rfl) fun u0 e0 g0 h0 => ?_
          have f0 := (hW.hv 6 u0 h0).2.1 rfl
          obtain ⟨z, rfl, hz⟩ := f0
          go_simp
          exact hK _ _ rfl (hW.upd 8 _ hr (by decide) ⟨fun e => absurd e (by decide), fun e => absurd e (by decide), fun e => absurd e (by decide), trivial⟩)
        · intro r a w' hf hg hW hr hd K hK
          refine wpOp_of rfl rfl ?_
          have e0 : a.tmps.getD 4 undef = .pointer (some ⟨w.heap.size + 1 + 1, 0, none⟩) := hf.evalFree (by kernel_rfl)
          refine hf.depE hg hd 7 67 (by kernel_rfl) fun u1 e1 g1 h1 => ?_
          have f1 := (hW.hv 7 u1 h1).2.2.1 rfl
          obtain ⟨n, d, rfl, hn, hd⟩ := f1
          obtain ⟨An, mn, cn, _, rfl, _⟩ := hn.1.pos
          obtain ⟨Ad, md, cd, _, rfl, _⟩ := hd.1.pos
          obtain ⟨x0, x1, x2, y0, y1, y2⟩ := three_cells (hW.b0 hr)
          go_simp
          exact hK undef _ trivial (hW.store FB.out (by decide) h1 (kp_setQ _ _ _ _ _) (setQ_at (hW.b0 hr) _ _ _) _ ⟨fun e => absurd e (by decide), fun e => absurd e (by decide), fun e => absurd e (by decide), trivial⟩)
        · intro r a w' hf hg hW hr hd K hK
          refine wpOp_of rfl rfl ?_
          refine hf.depE hg hd 8 68 (by kernel_rfl) fun u0 e0 g0 h0 => ?_
          replace g0 : u0 = .int .i64 0 := g0
          subst g0
          go_simp
          exact hK _ _ rfl (hW.upd 10 _ hr (by decide) ⟨fun e => absurd e (by decide), fun e => absurd e (by decide), fun e => absurd e (by decide), trivial⟩)
      intro r' w3 hg hW hr'
      have hkN := hW.kp
      obtain ⟨q7, hq7⟩ : ∃ u, r' 7 = some u := Option.ne_none_iff_exists'.1 (hr' 7 (by decide))
      have hF7 := (hW.hv 7 q7 hq7).2.2.1 rfl
      obtain ⟨q10, hq10⟩ : ∃ u, r' 10 = some u := Option.ne_none_iff_exists'.1 (hr' 10 (by decide))
      have hk10 := hg 10 q10 hq10
      replace hk10 : q10 = .int .i64 0 := hk10
      subst hk10
      obtain ⟨cs, hcs, hB⟩ := hW.b1 (hr' 9 (by decide))
      simp only [List.length_cons, List.length_nil, Nat.reduceAdd, List.range_succ, List.range_zero, List.nil_append, List.cons_append, List.map_cons, List.map_nil, putAll, Act.put, List.setIfInBounds_toArray, List.set_cons_succ, List.set_cons_zero, hq7, hq10, Option.getD_some]
      clear hg hW hr' FS FB hq10
      rw [hq7] at hcs
      injection hcs with hcs
      subst hcs
      obtain ⟨n, d, e, hn, hd⟩ := hF7
      injection e with e
      subst e
      obtain ⟨z0, z1, z2, _⟩ := three_cells hB
      have F := Lib.hid (show QuoNew w.heap.size w3 (.agg #[.bool (negQ qq), n, d]) qq KK from ⟨n, d, rfl, hn.mono (by omega), hd.mono (by omega)⟩)
      have KE := Lib.hid (KD.out.trans hkN (T := Kq.One (w.heap.size + 1 + 1)) (S := No) (fun k hk e => by unfold Kq.One at e; omega))
      clear hn hd hkN hB
      go_wp2_with fail
      exact bodyPost_ret (v := .tuple #[.agg #[.bool (negQ qq), n, d], .int .i64 0]) (by simp [results, Tryz.results99, go_sem, z0, z1, z2]) rfl ⟨_, rfl, F.out, KE.out⟩
end Go.Proofs.YtamjhpdgclbfgaaGreat
