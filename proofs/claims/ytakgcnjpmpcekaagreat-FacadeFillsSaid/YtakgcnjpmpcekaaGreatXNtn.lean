/- Fractions: QMul, QDiv, QAdd, QCmp: walks. Printed by gen_ntn.py. -/
import Derived.Test.YtakgcnjpmpcekaaGreatXNtm
namespace Go.Proofs.YtakgcnjpmpcekaaGreat
open Go.RowKit Go.Kq

def TupQ (g : Nat) (w : World) (u : Value) (q : Rat) (k : Nat) : Prop := ∃ z, u = .tuple #[z, .int .i64 0] ∧ QuoNew g w z q k
theorem TupQ.no {w w' : World} {v : Value} {q : Rat} {k g : Nat} (h : TupQ g w v q k) (hk : Kp No w w') : TupQ g w' v q k := by
  obtain ⟨z, h1, h2⟩ := h
  exact ⟨z, h1, h2.no hk⟩
theorem TupQ.kpS {w w' : World} {v : Value} {q : Rat} {k B : Nat} (h : TupQ (B + 1) w v q k) (hk : Kp (Kq.One B) w w') : TupQ (B + 1) w' v q k := by
  obtain ⟨z, h1, h2⟩ := h
  exact ⟨z, h1, h2.kp hk (by omega)⟩
theorem QuoNew.kpS {w w' : World} {v : Value} {q : Rat} {k B : Nat} (h : QuoNew (B + 1) w v q k) (hk : Kp (Kq.One B) w w') : QuoNew (B + 1) w' v q k := h.kp hk (by omega)
theorem IsNew.kpS {w w' : World} {v : Value} {N k B : Nat} (h : IsNew (B + 1) w v N k) (hk : Kp (Kq.One B) w w') : IsNew (B + 1) w' v N k := h.kp hk (by omega)
theorem IsNew.nat {g : Nat} {w : World} {v : Value} {N k : Nat} (h : IsNew g w v N k) : IsNat w v N k := h.1
theorem times_new (u v : Value) (x y k m K : Nat) (w : World) (hu : IsNat w u x k) (hv : IsNat w v y m) (hk : k ≤ 1000) (hm : m ≤ 1000) (hK : k + m + 1 ≤ K) :
    Calls Tryz.prog 66 #[u, v] w fun e w' => ∃ z, e = .returned z ∧ IsNew w.heap.size w' z (x * y) K ∧ Kp No w w' := by
  obtain ⟨A, n, c, l, rfl, h1, rfl, h3, _⟩ := hu
  obtain ⟨B, n2, c2, l2, rfl, g1, rfl, g3, _⟩ := hv
  refine (times_num A B n n2 c c2 l l2 w h1 g1 (by omega) (by omega)).mono ?_
  rintro e w' ⟨z, rfl, hz, hk⟩
  exact ⟨z, rfl, ⟨hz.1.le (by omega), hz.2⟩, hk⟩
theorem plus_new (u v : Value) (x y k m K : Nat) (w : World) (hu : IsNat w u x k) (hv : IsNat w v y m) (hk : k ≤ 1000) (hm : m ≤ 1000) (hK : k + m + 1 ≤ K) :
    Calls Tryz.prog 98 #[u, v] w fun e w' => ∃ z, e = .returned z ∧ IsNew w.heap.size w' z (x + y) K ∧ Kp No w w' := by
  obtain ⟨A, n, c, l, rfl, h1, rfl, h3, _⟩ := hu
  obtain ⟨B, n2, c2, l2, rfl, g1, rfl, g3, _⟩ := hv
  refine (plus_num A B n n2 c c2 l l2 w h1 g1 (by omega) (by omega)).mono ?_
  rintro e w' ⟨z, rfl, hz, hk⟩
  exact ⟨z, rfl, ⟨hz.1.le (by omega), hz.2⟩, hk⟩
theorem four_new (w : World) (o1 o2 o3 o4 : Obj) : ((((w.alloc o1).alloc o2).alloc o3).alloc o4).heap[w.heap.size]? = some o1 ∧ ((((w.alloc o1).alloc o2).alloc o3).alloc o4).heap[w.heap.size + 1]? = some o2 ∧ ((((w.alloc o1).alloc o2).alloc o3).alloc o4).heap[w.heap.size + 1 + 1]? = some o3 ∧
    ((((w.alloc o1).alloc o2).alloc o3).alloc o4).heap[w.heap.size + 1 + 1 + 1]? = some o4 ∧ Kp No w ((((w.alloc o1).alloc o2).alloc o3).alloc o4) := by
  refine ⟨?_, ?_, ?_, ?_, ((Kp.alloc _ _ _).tr (Kp.alloc _ _ _)).tr ((Kp.alloc _ _ _).tr (Kp.alloc _ _ _))⟩
  · rw [Below.heap_alloc _ _ _ (by simp <;> omega), Below.heap_alloc _ _ _ (by simp <;> omega), Below.heap_alloc _ _ _ (by simp <;> omega), heap_alloc_new]
  · rw [Below.heap_alloc _ _ _ (by simp <;> omega), Below.heap_alloc _ _ _ (by simp <;> omega)]
    have := heap_alloc_new (w.alloc o1) o2
    simpa using this
  · rw [Below.heap_alloc _ _ _ (by simp)]
    have := heap_alloc_new ((w.alloc o1).alloc o2) o3
    simpa using this
  · have := heap_alloc_new (((w.alloc o1).alloc o2).alloc o3) o4
    simpa using this
theorem qat_two {w : World} {g : Nat} {t : TypeId} {n1 d1 n2 d2 : Value} {a b : Rat} {s1 s2 : Bool} (hh : w.heap[g]? = some (.cells #[.bool s1, n1, d1, .bool s2, n2, d2] t (0, 0))) (h1 : negQ a = s1) (h2 : negQ b = s2) (ha : IsQuo w (.agg #[.bool s1, n1, d1]) a 300) (hb : IsQuo w (.agg #[.bool s2, n2, d2]) b 300) : QAt w g [a, b] := by
  subst h1 h2
  intro i q hq
  match i, hq with
  | 0, hq => simp at hq; subst hq; exact ⟨n1, d1, by rw [cell_of_row _ _ _ _ _ _ hh]; rfl, by rw [cell_of_row _ _ _ _ _ _ hh]; rfl, by rw [cell_of_row _ _ _ _ _ _ hh]; rfl, ha⟩
  | 1, hq => simp at hq; subst hq; exact ⟨n2, d2, by rw [cell_of_row _ _ _ _ _ _ hh]; rfl, by rw [cell_of_row _ _ _ _ _ _ hh]; rfl, by rw [cell_of_row _ _ _ _ _ _ hh]; rfl, hb⟩
  | i + 2, hq => simp at hq
theorem badq_two (n1 d1 n2 d2 : Value) (a b : Rat) (s1 s2 : Bool) (g k m : Nat) (t : TypeId) (w : World) (hk : k ≤ 300) (hm : m ≤ 300) (h1 : negQ a = s1) (h2 : negQ b = s2) (ha : IsQuo w (.agg #[.bool s1, n1, d1]) a k) (hb : IsQuo w (.agg #[.bool s2, n2, d2]) b m) (hh : w.heap[g]? = some (.cells #[.bool s1, n1, d1, .bool s2, n2, d2] t (0, 0))) :
    Calls Tryz.prog 64 #[.slice (some ⟨g, 0, none⟩) 2 2] w fun e w' => e = .returned (.int .i64 0) ∧ Kp No w w' :=
  badq_is g 2 2 [a, b] w rfl (by omega) (qat_two hh h1 h2 (ha.le hk) (hb.le hm))
set_option maxHeartbeats 2000000 in
set_option maxRecDepth 100000 in
theorem qmul_is (u v : Value) (a b : Rat) (k m : Nat) (w : World) (hu : IsQuo w u a k) (hv : IsQuo w v b m) (hkm : k + m + 1 ≤ 300) :
    Calls Tryz.prog 45 #[u, v] w fun e w' => ∃ z, e = .returned (.tuple #[z, .int .i64 0]) ∧ QuoNew w.heap.size w' z (a * b) (k + m + 1) ∧ Kp No w w' := by
  have hu0 := hu
  have hv0 := hv
  obtain ⟨n1, d1, rfl, hn1, hd1⟩ := hu
  obtain ⟨n2, d2, rfl, hn2, hd2⟩ := hv
  have hlow := mul_low a b
  obtain ⟨s1, hs1⟩ : ∃ s, negQ a = s := ⟨_, rfl⟩
  obtain ⟨s2, hs2⟩ : ∃ s, negQ b = s := ⟨_, rfl⟩
  have hdp : 0 < a.den * b.den := Nat.mul_pos a.den_pos b.den_pos
  rw [hs1, hs2] at hlow
  rw [hs1] at hu0 ⊢
  rw [hs2] at hv0 ⊢
  have BQ := Lib.hid (fun (g : Nat) (w0 : World) (hk0 : Kp No w w0) hh => badq_two n1 d1 n2 d2 a b s1 s2 g k m 89 w0 (by omega) (by omega) hs1 hs2 (hu0.no hk0) (hv0.no hk0) hh)
  have T1 := Lib.hid (fun (w0 : World) (hk0 : Kp No w w0) => times_new n1 n2 _ _ k m (k + m + 1) w0 (hn1.no hk0) (hn2.no hk0) (by omega) (by omega) (by omega))
  have T2 := Lib.hid (fun (w0 : World) (hk0 : Kp No w w0) => times_new d1 d2 _ _ k m (k + m + 1) w0 (hd1.no hk0) (hd2.no hk0) (by omega) (by omega) (by omega))
  have LW := Lib.hid (fun (w0 : World) (x y : Value) hx hy => lowest_is (s1 != s2) x y (a.num.natAbs * b.num.natAbs) (a.den * b.den) (k + m + 1) w0 hx hy hkm hdp)
  rw [← hlow] at LW
  generalize a.num.natAbs = x1 at *
  generalize b.num.natAbs = x2 at *
  generalize a.den = y1 at *
  generalize b.den = y2 at *
  obtain ⟨qq, hqq⟩ : ∃ q, q = a * b := ⟨_, rfl⟩
  rw [← hqq] at LW ⊢
  obtain ⟨KK, hKK⟩ : ∃ K, K = k + m + 1 := ⟨_, rfl⟩
  have HL := Lib.hid hKK
  clear hlow hqq hs1 hs2 hdp
  obtain ⟨A1, m1, c1, _, rfl, _⟩ := hn1.pos
  obtain ⟨A2, m2, c2, _, rfl, _⟩ := hd1.pos
  obtain ⟨A3, m3, c3, _, rfl, _⟩ := hn2.pos
  obtain ⟨A4, m4, c4, _, rfl, _⟩ := hd2.pos
  clear hn1 hn2 hd1 hd2 hu0 hv0
  obtain ⟨h1, h2, h3, h4, KA⟩ := four_new w (.cells #[.bool s1, .slice A1 m1 c1, .slice A2 m2 c2] 89) (.cells #[.bool s2, .slice A3 m3 c3, .slice A4 m4 c4] 89) (.cells #[.bool false, .slice none 0 0, .slice none 0 0] 89) (.cells #[.bool s1, .slice A1 m1 c1, .slice A2 m2 c2, .bool s2, .slice A3 m3 c3, .slice A4 m4 c4] 89)
  replace h1 := Lib.hid h1
  replace h2 := Lib.hid h2
  replace h3 := Lib.hid h3
  replace h4 := Lib.hid h4
  replace KA := Lib.hid KA
  rw [← hKK] at T1 T2 LW ⊢
  clear hKK
  go_enter Tryz.func45, Tryz.ntmps45
  go_wp2_with fail
  refine (BQ.out _ _ KA.out h4.out).mono ?_
  rintro _ wb ⟨rfl, kb⟩
  have KB := KA.out.tr kb
  have HB1 := kb.heap h1.out id
  have HB2 := kb.heap h2.out id
  have HB3 := Lib.hid (kb.heap h3.out id)
  have SB := Lib.hid (show w.heap.size + 1 + 1 + 1 ≤ wb.heap.size from (Array.getElem?_eq_some_iff.1 HB3.out).1)
  have KW := Lib.hid (fun (w0 : World) (h : Kp (Kq.One (w.heap.size + 1 + 1)) wb w0) => KB.trans h (T := Kq.One (w.heap.size + 1 + 1)) (S := No) (fun k hk e => by unfold Kq.One at e; omega))
  obtain ⟨a0, a1, a2, _⟩ := three_cells HB1
  obtain ⟨b0, b1, b2, _⟩ := three_cells HB2
  have nA := Lib.hid (show ¬ Kq.One (w.heap.size + 1 + 1) w.heap.size from fun e => by unfold Kq.One at e; omega)
  have nB := Lib.hid (show ¬ Kq.One (w.heap.size + 1 + 1) (w.heap.size + 1) from fun e => by unfold Kq.One at e; omega)
  clear h1 h2 h3 h4 KA kb KB HB1 HB2 BQ
  go_wp2_with fail
  have FS : Stab (fun i wz u => (i = 9 → IsNew (w.heap.size + 1 + 1 + 1) wz u (x1 * x2) KK) ∧ (i = 14 → IsNew (w.heap.size + 1 + 1 + 1) wz u (y1 * y2) KK) ∧ (i = 15 → TupQ (w.heap.size + 1 + 1 + 1) wz u qq KK) ∧ (i = 16 → QuoNew (w.heap.size + 1 + 1 + 1) wz u qq KK) ∧ True) := fun i u wz wz' k h => ⟨fun e => IsNew.no (h.1 e) k, fun e => IsNew.no (h.2.1 e) k, fun e => TupQ.no (h.2.2.1 e) k, fun e => QuoNew.no (h.2.2.2.1 e) k, trivial⟩
  have FB : ∀ (i : Nat) (u : Value) (wz wz' : World), Kp (Kq.One (w.heap.size + 1 + 1)) wz wz' → ((fun i wz u => (i = 9 → IsNew (w.heap.size + 1 + 1 + 1) wz u (x1 * x2) KK) ∧ (i = 14 → IsNew (w.heap.size + 1 + 1 + 1) wz u (y1 * y2) KK) ∧ (i = 15 → TupQ (w.heap.size + 1 + 1 + 1) wz u qq KK) ∧ (i = 16 → QuoNew (w.heap.size + 1 + 1 + 1) wz u qq KK) ∧ True : Nat → World → Value → Prop) i wz u) → ((fun i wz u => (i = 9 → IsNew (w.heap.size + 1 + 1 + 1) wz u (x1 * x2) KK) ∧ (i = 14 → IsNew (w.heap.size + 1 + 1 + 1) wz u (y1 * y2) KK) ∧ (i = 15 → TupQ (w.heap.size + 1 + 1 + 1) wz u qq KK) ∧ (i = 16 → QuoNew (w.heap.size + 1 + 1 + 1) wz u qq KK) ∧ True : Nat → World → Value → Prop) i wz' u) := fun i u wz wz' k h => ⟨fun e => IsNew.kpS (h.1 e) k, fun e => IsNew.kpS (h.2.1 e) k, fun e => TupQ.kpS (h.2.2.1 e) k, fun e => QuoNew.kpS (h.2.2.2.1 e) k, trivial⟩
  have FS := Lib.hid FS
  have FB := Lib.hid FB
  refine wp_region_each (fun i u => match i with | 0 => u = .pointer (some ⟨w.heap.size, 0, none⟩) | 1 => u = .bool s1 | 2 => u = .pointer (some ⟨w.heap.size + 1, 0, none⟩) | 3 => u = .bool s2 | 4 => u = .bool (s1 != s2) | 5 => u = .pointer (some ⟨w.heap.size, 1, none⟩) | 6 => u = .slice A1 m1 c1 | 7 => u = .pointer (some ⟨w.heap.size + 1, 1, none⟩) | 8 => u = .slice A3 m3 c3 | 10 => u = .pointer (some ⟨w.heap.size, 2, none⟩) | 11 => u = .slice A2 m2 c2 | 12 => u = .pointer (some ⟨w.heap.size + 1, 2, none⟩) | 13 => u = .slice A4 m4 c4 | 17 => u = .int .i64 0 | 19 => u = .int .i64 0 | _ => True) (HvS wb (w.heap.size + 1 + 1) 89 #[.bool false, .slice none 0 0, .slice none 0 0] 18 16 (fun i wz u => (i = 9 → IsNew (w.heap.size + 1 + 1 + 1) wz u (x1 * x2) KK) ∧ (i = 14 → IsNew (w.heap.size + 1 + 1 + 1) wz u (y1 * y2) KK) ∧ (i = 15 → TupQ (w.heap.size + 1 + 1 + 1) wz u qq KK) ∧ (i = 16 → QuoNew (w.heap.size + 1 + 1 + 1) wz u qq KK) ∧ True)) (by kernel_rfl) (by kernel_rfl) (by kernel_rfl) ?_ ?_ ?_
  · exact HvS.start HB3.out
  · refine ⟨?_, ?_, ?_, ?_, ?_, ?_, ?_, ?_, ?_, ?_, ?_, ?_, ?_, ?_, ?_, ?_, ?_, ?_, ?_, ?_, trivial⟩
    · intro r a w' hf hg hW hr hd K hK
      refine wpOp_of rfl rfl ?_
      have e0 : a.tmps.getD 2 undef = .pointer (some ⟨w.heap.size, 0, none⟩) := hf.evalFree (by kernel_rfl)
      go_simp
      exact hK _ _ rfl (hW.upd 0 _ hr (by decide) ⟨fun e => absurd e (by decide), fun e => absurd e (by decide), fun e => absurd e (by decide), fun e => absurd e (by decide), trivial⟩)
    · intro r a w' hf hg hW hr hd K hK
      refine wpOp_of rfl rfl ?_
      refine hf.depE hg hd 0 15 (by kernel_rfl) fun u0 e0 g0 h0 => ?_
      replace g0 : u0 = .pointer (some ⟨w.heap.size, 0, none⟩) := g0
      subst g0
      have z0 := hW.kp.cell a0 nA.out
      go_simp
      exact hK _ _ rfl (hW.upd 1 _ hr (by decide) ⟨fun e => absurd e (by decide), fun e => absurd e (by decide), fun e => absurd e (by decide), fun e => absurd e (by decide), trivial⟩)
    · intro r a w' hf hg hW hr hd K hK
      refine wpOp_of rfl rfl ?_
      have e0 : a.tmps.getD 3 undef = .pointer (some ⟨w.heap.size + 1, 0, none⟩) := hf.evalFree (by kernel_rfl)
      go_simp
      exact hK _ _ rfl (hW.upd 2 _ hr (by decide) ⟨fun e => absurd e (by decide), fun e => absurd e (by decide), fun e => absurd e (by decide), fun e => absurd e (by decide), trivial⟩)
    · intro r a w' hf hg hW hr hd K hK
      refine wpOp_of rfl rfl ?_
      refine hf.depE hg hd 2 17 (by kernel_rfl) fun u0 e0 g0 h0 => ?_
      replace g0 : u0 = .pointer (some ⟨w.heap.size + 1, 0, none⟩) := g0
      subst g0
      have z0 := hW.kp.cell b0 nB.out
      go_simp
      exact hK _ _ rfl (hW.upd 3 _ hr (by decide) ⟨fun e => absurd e (by decide), fun e => absurd e (by decide), fun e => absurd e (by decide), fun e => absurd e (by decide), trivial⟩)
    · intro r a w' hf hg hW hr hd K hK
      refine wpOp_of rfl rfl ?_
      refine hf.depE hg hd 1 16 (by kernel_rfl) fun u0 e0 g0 h0 => ?_
      replace g0 : u0 = .bool s1 := g0
      subst g0
      refine hf.depE hg hd 3 18 (by kernel_rfl) fun u1 e1 g1 h1 => ?_
      replace g1 : u1 = .bool s2 := g1
      subst g1
      go_simp
      exact hK _ _ rfl (hW.upd 4 _ hr (by decide) ⟨fun e => absurd e (by decide), fun e => absurd e (by decide), fun e => absurd e (by decide), fun e => absurd e (by decide), trivial⟩)
    · intro r a w' hf hg hW hr hd K hK
      refine wpOp_of rfl rfl ?_
      have e0 : a.tmps.getD 2 undef = .pointer (some ⟨w.heap.size, 0, none⟩) := hf.evalFree (by kernel_rfl)
      go_simp
      exact hK _ _ rfl (hW.upd 5 _ hr (by decide) ⟨fun e => absurd e (by decide), fun e => absurd e (by decide), fun e => absurd e (by decide), fun e => absurd e (by decide), trivial⟩)
    · intro r a w' hf hg hW hr hd K hK
      refine wpOp_of rfl rfl ?_
      refine hf.depE hg hd 5 20 (by kernel_rfl) fun u0 e0 g0 h0 => ?_
      replace g0 : u0 = .pointer (some ⟨w.heap.size, 1, none⟩) := g0
      subst g0
      have z0 := hW.kp.cell a1 nA.out
      go_simp
      exact hK _ _ rfl (hW.upd 6 _ hr (by decide) ⟨fun e => absurd e (by decide), fun e => absurd e (by decide), fun e => absurd e (by decide), fun e => absurd e (by decide), trivial⟩)
    · intro r a w' hf hg hW hr hd K hK
      refine wpOp_of rfl rfl ?_
      have e0 : a.tmps.getD 3 undef = .pointer (some ⟨w.heap.size + 1, 0, none⟩) := hf.evalFree (by kernel_rfl)
      go_simp
      exact hK _ _ rfl (hW.upd 7 _ hr (by decide) ⟨fun e => absurd e (by decide), fun e => absurd e (by decide), fun e => absurd e (by decide), fun e => absurd e (by decide), trivial⟩)
    · intro r a w' hf hg hW hr hd K hK
      refine wpOp_of rfl rfl ?_
      refine hf.depE hg hd 7 22 (by kernel_rfl) fun u0 e0 g0 h0 => ?_
      replace g0 : u0 = .pointer (some ⟨w.heap.size + 1, 1, none⟩) := g0
      subst g0
      have z0 := hW.kp.cell b1 nB.out
      go_simp
      exact hK _ _ rfl (hW.upd 8 _ hr (by decide) ⟨fun e => absurd e (by decide), fun e => absurd e (by decide), fun e => absurd e (by decide), fun e => absurd e (by decide), trivial⟩)
    · intro r a w' hf hg hW hr hd K hK
      refine wpOp_of rfl rfl ?_
      refine hf.depE hg hd 6 21 (by kernel_rfl) fun u0 e0 g0 h0 => ?_
      replace g0 : u0 = .slice A1 m1 c1 := g0
      subst g0
      refine hf.depE hg hd 8 23 (by kernel_rfl) fun u1 e1 g1 h1 => ?_
      replace g1 : u1 = .slice A3 m3 c3 := g1
      subst g1
      go_simp
      with_reducible refine (T1.out _ (KW.out _ hW.kp)).mono ?_
      rintro e w'' ⟨z, rfl, hz, k⟩
      exact hK _ _ trivial ((hW.call FS.out k).upd 9 _ hr (by decide) ⟨fun _ => hz.mono (Nat.le_trans SB.out hW.kp.size), fun e => absurd e (by decide), fun e => absurd e (by decide), fun e => absurd e (by decide), trivial⟩)
    · intro r a w' hf hg hW hr hd K hK
      refine wpOp_of rfl rfl ?_
      have e0 : a.tmps.getD 2 undef = .pointer (some ⟨w.heap.size, 0, none⟩) := hf.evalFree (by kernel_rfl)
      go_simp
      exact hK _ _ rfl (hW.upd 10 _ hr (by decide) ⟨fun e => absurd e (by decide), fun e => absurd e (by decide), fun e => absurd e (by decide), fun e => absurd e (by decide), trivial⟩)
    · intro r a w' hf hg hW hr hd K hK
      refine wpOp_of rfl rfl ?_
      refine hf.depE hg hd 10 25 (by kernel_rfl) fun u0 e0 g0 h0 => ?_
      replace g0 : u0 = .pointer (some ⟨w.heap.size, 2, none⟩) := g0
      subst g0
      have z0 := hW.kp.cell a2 nA.out
      go_simp
      exact hK _ _ rfl (hW.upd 11 _ hr (by decide) ⟨fun e => absurd e (by decide), fun e => absurd e (by decide), fun e => absurd e (by decide), fun e => absurd e (by decide), trivial⟩)
    · intro r a w' hf hg hW hr hd K hK
      refine wpOp_of rfl rfl ?_
      have e0 : a.tmps.getD 3 undef = .pointer (some ⟨w.heap.size + 1, 0, none⟩) := hf.evalFree (by kernel_rfl)
      go_simp
      exact hK _ _ rfl (hW.upd 12 _ hr (by decide) ⟨fun e => absurd e (by decide), fun e => absurd e (by decide), fun e => absurd e (by decide), fun e => absurd e (by decide), trivial⟩)
    · intro r a w' hf hg hW hr hd K hK
      refine wpOp_of rfl rfl ?_
      refine hf.depE hg hd 12 27 (by kernel_rfl) fun u0 e0 g0 h0 => ?_
      replace g0 : u0 = .pointer (some ⟨w.heap.size + 1, 2, none⟩) := g0
      subst g0
      have z0 := hW.kp.cell b2 nB.out
      go_simp
      exact hK _ _ rfl (hW.upd 13 _ hr (by decide) ⟨fun e => absurd e (by decide), fun e => absurd e (by decide), fun e => absurd e (by decide), fun e => absurd e (by decide), trivial⟩)
    · intro r a w' hf hg hW hr hd K hK
      refine wpOp_of rfl rfl ?_
      refine hf.depE hg hd 11 26 (by kernel_rfl) fun u0 e0 g0 h0 => ?_
      replace g0 : u0 = .slice A2 m2 c2 := g0
      subst g0
      refine hf.depE hg hd 13 28 (by kernel_rfl) fun u1 e1 g1 h1 => ?_
      replace g1 : u1 = .slice A4 m4 c4 := g1
      subst g1
      go_simp
      with_reducible refine (T2.out _ (KW.out _ hW.kp)).mono ?_
      rintro e w'' ⟨z, rfl, hz, k⟩
      exact hK _ _ trivial ((hW.call FS.out k).upd 14 _ hr (by decide) ⟨fun e => absurd e (by decide), fun _ => hz.mono (Nat.le_trans SB.out hW.kp.size), fun e => absurd e (by decide), fun e => absurd e (by decide), trivial⟩)
    · intro r a w' hf hg hW hr hd K hK
      refine wpOp_of rfl rfl ?_
      refine hf.depE hg hd 4 19 (by kernel_rfl) fun u0 e0 g0 h0 => ?_
      replace g0 : u0 = .bool (s1 != s2) := g0
      subst g0
      refine hf.depE hg hd 9 24 (by kernel_rfl) fun u1 e1 g1 h1 => ?_
      have f1 := (hW.hv 9 u1 h1).1 rfl
      refine hf.depE hg hd 14 29 (by kernel_rfl) fun u2 e2 g2 h2 => ?_
      have f2 := (hW.hv 14 u2 h2).2.1 rfl
      go_simp
      with_reducible refine (LW.out _ _ _ f1.nat f2.nat).mono ?_
      rintro e w'' ⟨z, rfl, hz, k⟩
      exact hK _ _ trivial ((hW.call FS.out k).upd 15 _ hr (by decide) ⟨fun e => absurd e (by decide), fun e => absurd e (by decide), fun _ => ⟨z, rfl, hz.mono (Nat.le_trans SB.out hW.kp.size)⟩, fun e => absurd e (by decide), trivial⟩)
    · intro r a w' hf hg hW hr hd K hK
      refine wpOp_of rfl rfl ?_
      refine hf.depE hg hd 15 30 (by kernel_rfl) fun u0 e0 g0 h0 => ?_
      have f0 := (hW.hv 15 u0 h0).2.2.1 rfl
      obtain ⟨z, rfl, hz⟩ := f0
      go_simp
      exact hK _ _ trivial (hW.upd 16 _ hr (by decide) ⟨fun e => absurd e (by decide), fun e => absurd e (by decide), fun e => absurd e (by decide), fun _ => hz, trivial⟩)
    · intro r a w' hf hg hW hr hd K hK
      refine wpOp_of rfl rfl ?_
      refine hf.depE hg hd 15 30 (by kernel_rfl) fun u0 e0 g0 h0 => ?_
      have f0 := (hW.hv 15 u0 h0).2.2.1 rfl
      obtain ⟨z, rfl, hz⟩ := f0
      go_simp
      exact hK _ _ rfl (hW.upd 17 _ hr (by decide) ⟨fun e => absurd e (by decide), fun e => absurd e (by decide), fun e => absurd e (by decide), fun e => absurd e (by decide), trivial⟩)
    · intro r a w' hf hg hW hr hd K hK
      refine wpOp_of rfl rfl ?_
      have e0 : a.tmps.getD 4 undef = .pointer (some ⟨w.heap.size + 1 + 1, 0, none⟩) := hf.evalFree (by kernel_rfl)
      refine hf.depE hg hd 16 31 (by kernel_rfl) fun u1 e1 g1 h1 => ?_
      have f1 := (hW.hv 16 u1 h1).2.2.2.1 rfl
      obtain ⟨n, d, rfl, hn, hd⟩ := f1
      obtain ⟨An, mn, cn, _, rfl, _⟩ := hn.1.pos
      obtain ⟨Ad, md, cd, _, rfl, _⟩ := hd.1.pos
      obtain ⟨x0, x1, x2, y0, y1, y2⟩ := three_cells (hW.b0 hr)
      go_simp
      exact hK undef _ trivial (hW.store FB.out (by decide) h1 (kp_setQ _ _ _ _ _) (setQ_at (hW.b0 hr) _ _ _) _ ⟨fun e => absurd e (by decide), fun e => absurd e (by decide), fun e => absurd e (by decide), fun e => absurd e (by decide), trivial⟩)
    · intro r a w' hf hg hW hr hd K hK
      refine wpOp_of rfl rfl ?_
      refine hf.depE hg hd 17 32 (by kernel_rfl) fun u0 e0 g0 h0 => ?_
      replace g0 : u0 = .int .i64 0 := g0
      subst g0
      go_simp
      exact hK _ _ rfl (hW.upd 19 _ hr (by decide) ⟨fun e => absurd e (by decide), fun e => absurd e (by decide), fun e => absurd e (by decide), fun e => absurd e (by decide), trivial⟩)
  intro r' w3 hg hW hr'
  have hkN := hW.kp
  obtain ⟨q16, hq16⟩ : ∃ u, r' 16 = some u := Option.ne_none_iff_exists'.1 (hr' 16 (by decide))
  have hF16 := (hW.hv 16 q16 hq16).2.2.2.1 rfl
  obtain ⟨q19, hq19⟩ : ∃ u, r' 19 = some u := Option.ne_none_iff_exists'.1 (hr' 19 (by decide))
  have hk19 := hg 19 q19 hq19
  replace hk19 : q19 = .int .i64 0 := hk19
  subst hk19
  obtain ⟨cs, hcs, hB⟩ := hW.b1 (hr' 18 (by decide))
  simp only [List.length_cons, List.length_nil, Nat.reduceAdd, List.range_succ, List.range_zero, List.nil_append, List.cons_append, List.map_cons, List.map_nil, putAll, Act.put, List.setIfInBounds_toArray, List.set_cons_succ, List.set_cons_zero, hq16, hq19, Option.getD_some]
  clear hg hW hr' FS FB hq19
  rw [hq16] at hcs
  injection hcs with hcs
  subst hcs
  obtain ⟨n, d, e, hn, hd⟩ := hF16
  injection e with e
  subst e
  obtain ⟨z0, z1, z2, _⟩ := three_cells hB
  have F := Lib.hid (show QuoNew w.heap.size w3 (.agg #[.bool (negQ qq), n, d]) qq KK from ⟨n, d, rfl, hn.mono (by omega), hd.mono (by omega)⟩)
  have KE := Lib.hid (KW.out _ hkN)
  clear hn hd hkN hB
  go_wp2_with fail
  exact bodyPost_ret (v := .tuple #[.agg #[.bool (negQ qq), n, d], .int .i64 0]) (by simp [results, Tryz.results45, go_sem, z0, z1, z2]) rfl ⟨_, rfl, F.out, KE.out⟩
set_option maxHeartbeats 2000000 in
set_option maxRecDepth 100000 in
theorem qdiv_is (u v : Value) (a b : Rat) (k m : Nat) (w : World) (hu : IsQuo w u a k) (hv : IsQuo w v b m) (hkm : k + m + 1 ≤ 300) (hb0 : b ≠ 0) :
    Calls Tryz.prog 63 #[u, v] w fun e w' => ∃ z, e = .returned (.tuple #[z, .int .i64 0]) ∧ QuoNew w.heap.size w' z (a / b) (k + m + 1) ∧ Kp No w w' := by
  have hu0 := hu
  have hv0 := hv
  obtain ⟨n1, d1, rfl, hn1, hd1⟩ := hu
  obtain ⟨n2, d2, rfl, hn2, hd2⟩ := hv
  have hlow := div_low a b hb0
  obtain ⟨s1, hs1⟩ : ∃ s, negQ a = s := ⟨_, rfl⟩
  obtain ⟨s2, hs2⟩ : ∃ s, negQ b = s := ⟨_, rfl⟩
  have hx20 : 0 < b.num.natAbs := by
    have : b.num ≠ 0 := fun h => hb0 (Rat.num_eq_zero.1 h)
    omega
  have hdp : 0 < a.den * b.num.natAbs := Nat.mul_pos a.den_pos hx20
  rw [hs1, hs2] at hlow
  rw [hs1] at hu0 ⊢
  rw [hs2] at hv0 ⊢
  have BQ := Lib.hid (fun (g : Nat) (w0 : World) (hk0 : Kp No w w0) hh => badq_two n1 d1 n2 d2 a b s1 s2 g k m 89 w0 (by omega) (by omega) hs1 hs2 (hu0.no hk0) (hv0.no hk0) hh)
  have T1 := Lib.hid (fun (w0 : World) (hk0 : Kp No w w0) => times_new n1 d2 _ _ k m (k + m + 1) w0 (hn1.no hk0) (hd2.no hk0) (by omega) (by omega) (by omega))
  have T2 := Lib.hid (fun (w0 : World) (hk0 : Kp No w w0) => times_new d1 n2 _ _ k m (k + m + 1) w0 (hd1.no hk0) (hn2.no hk0) (by omega) (by omega) (by omega))
  have LW := Lib.hid (fun (w0 : World) (x y : Value) hx hy => lowest_is (s1 != s2) x y (a.num.natAbs * b.den) (a.den * b.num.natAbs) (k + m + 1) w0 hx hy hkm hdp)
  rw [← hlow] at LW
  generalize a.num.natAbs = x1 at *
  generalize b.num.natAbs = x2 at *
  generalize a.den = y1 at *
  generalize b.den = y2 at *
  obtain ⟨qq, hqq⟩ : ∃ q, q = a / b := ⟨_, rfl⟩
  rw [← hqq] at LW ⊢
  obtain ⟨KK, hKK⟩ : ∃ K, K = k + m + 1 := ⟨_, rfl⟩
  have HL := Lib.hid hKK
  clear hlow hqq hs1 hs2 hdp hb0
  obtain ⟨A1, m1, c1, _, rfl, _⟩ := hn1.pos
  obtain ⟨A2, m2, c2, _, rfl, _⟩ := hd1.pos
  obtain ⟨A3, m3, c3, _, rfl, _, _, _, p3⟩ := hn2.pos
  have hm3 : ((m3 : Int) == 0) = false := by rw [beq_eq_false_iff_ne]; have := p3.2 hx20; omega
  obtain ⟨A4, m4, c4, _, rfl, _⟩ := hd2.pos
  clear hn1 hn2 hd1 hd2 hu0 hv0 p3 hx20
  obtain ⟨h1, h2, h3, h4, KA⟩ := four_new w (.cells #[.bool s1, .slice A1 m1 c1, .slice A2 m2 c2] 89) (.cells #[.bool s2, .slice A3 m3 c3, .slice A4 m4 c4] 89) (.cells #[.bool false, .slice none 0 0, .slice none 0 0] 89) (.cells #[.bool s1, .slice A1 m1 c1, .slice A2 m2 c2, .bool s2, .slice A3 m3 c3, .slice A4 m4 c4] 89)
  replace h1 := Lib.hid h1
  replace h2 := Lib.hid h2
  replace h3 := Lib.hid h3
  replace h4 := Lib.hid h4
  replace KA := Lib.hid KA
  rw [← hKK] at T1 T2 LW ⊢
  clear hKK
  go_enter Tryz.func63, Tryz.ntmps63
  go_wp2_with fail
  refine (BQ.out _ _ KA.out h4.out).mono ?_
  rintro _ wb ⟨rfl, kb⟩
  have KB := KA.out.tr kb
  have HB1 := kb.heap h1.out id
  have HB2 := kb.heap h2.out id
  have HB3 := Lib.hid (kb.heap h3.out id)
  have SB := Lib.hid (show w.heap.size + 1 + 1 + 1 ≤ wb.heap.size from (Array.getElem?_eq_some_iff.1 HB3.out).1)
  have KW := Lib.hid (fun (w0 : World) (h : Kp (Kq.One (w.heap.size + 1 + 1)) wb w0) => KB.trans h (T := Kq.One (w.heap.size + 1 + 1)) (S := No) (fun k hk e => by unfold Kq.One at e; omega))
  obtain ⟨a0, a1, a2, _⟩ := three_cells HB1
  obtain ⟨b0, b1, b2, _⟩ := three_cells HB2
  have nA := Lib.hid (show ¬ Kq.One (w.heap.size + 1 + 1) w.heap.size from fun e => by unfold Kq.One at e; omega)
  have nB := Lib.hid (show ¬ Kq.One (w.heap.size + 1 + 1) (w.heap.size + 1) from fun e => by unfold Kq.One at e; omega)
  clear h1 h2 h3 h4 KA kb KB HB1 HB2 BQ
  go_wp2_with fail
  have FS : Stab (fun i wz u => (i = 9 → IsNew (w.heap.size + 1 + 1 + 1) wz u (x1 * y2) KK) ∧ (i = 14 → IsNew (w.heap.size + 1 + 1 + 1) wz u (y1 * x2) KK) ∧ (i = 15 → TupQ (w.heap.size + 1 + 1 + 1) wz u qq KK) ∧ (i = 16 → QuoNew (w.heap.size + 1 + 1 + 1) wz u qq KK) ∧ True) := fun i u wz wz' k h => ⟨fun e => IsNew.no (h.1 e) k, fun e => IsNew.no (h.2.1 e) k, fun e => TupQ.no (h.2.2.1 e) k, fun e => QuoNew.no (h.2.2.2.1 e) k, trivial⟩
  have FB : ∀ (i : Nat) (u : Value) (wz wz' : World), Kp (Kq.One (w.heap.size + 1 + 1)) wz wz' → ((fun i wz u => (i = 9 → IsNew (w.heap.size + 1 + 1 + 1) wz u (x1 * y2) KK) ∧ (i = 14 → IsNew (w.heap.size + 1 + 1 + 1) wz u (y1 * x2) KK) ∧ (i = 15 → TupQ (w.heap.size + 1 + 1 + 1) wz u qq KK) ∧ (i = 16 → QuoNew (w.heap.size + 1 + 1 + 1) wz u qq KK) ∧ True : Nat → World → Value → Prop) i wz u) → ((fun i wz u => (i = 9 → IsNew (w.heap.size + 1 + 1 + 1) wz u (x1 * y2) KK) ∧ (i = 14 → IsNew (w.heap.size + 1 + 1 + 1) wz u (y1 * x2) KK) ∧ (i = 15 → TupQ (w.heap.size + 1 + 1 + 1) wz u qq KK) ∧ (i = 16 → QuoNew (w.heap.size + 1 + 1 + 1) wz u qq KK) ∧ True : Nat → World → Value → Prop) i wz' u) := fun i u wz wz' k h => ⟨fun e => IsNew.kpS (h.1 e) k, fun e => IsNew.kpS (h.2.1 e) k, fun e => TupQ.kpS (h.2.2.1 e) k, fun e => QuoNew.kpS (h.2.2.2.1 e) k, trivial⟩
  have FS := Lib.hid FS
  have FB := Lib.hid FB
  refine wp_region_each (fun i u => match i with | 0 => u = .pointer (some ⟨w.heap.size, 0, none⟩) | 1 => u = .bool s1 | 2 => u = .pointer (some ⟨w.heap.size + 1, 0, none⟩) | 3 => u = .bool s2 | 4 => u = .bool (s1 != s2) | 5 => u = .pointer (some ⟨w.heap.size, 1, none⟩) | 6 => u = .slice A1 m1 c1 | 7 => u = .pointer (some ⟨w.heap.size + 1, 2, none⟩) | 8 => u = .slice A4 m4 c4 | 10 => u = .pointer (some ⟨w.heap.size, 2, none⟩) | 11 => u = .slice A2 m2 c2 | 12 => u = .pointer (some ⟨w.heap.size + 1, 1, none⟩) | 13 => u = .slice A3 m3 c3 | 17 => u = .int .i64 0 | 19 => u = .int .i64 0 | _ => True) (HvS wb (w.heap.size + 1 + 1) 89 #[.bool false, .slice none 0 0, .slice none 0 0] 18 16 (fun i wz u => (i = 9 → IsNew (w.heap.size + 1 + 1 + 1) wz u (x1 * y2) KK) ∧ (i = 14 → IsNew (w.heap.size + 1 + 1 + 1) wz u (y1 * x2) KK) ∧ (i = 15 → TupQ (w.heap.size + 1 + 1 + 1) wz u qq KK) ∧ (i = 16 → QuoNew (w.heap.size + 1 + 1 + 1) wz u qq KK) ∧ True)) (by kernel_rfl) (by kernel_rfl) (by kernel_rfl) ?_ ?_ ?_
  · exact HvS.start HB3.out
  · refine ⟨?_, ?_, ?_, ?_, ?_, ?_, ?_, ?_, ?_, ?_, ?_, ?_, ?_, ?_, ?_, ?_, ?_, ?_, ?_, ?_, trivial⟩
    · intro r a w' hf hg hW hr hd K hK
      refine wpOp_of rfl rfl ?_
      have e0 : a.tmps.getD 2 undef = .pointer (some ⟨w.heap.size, 0, none⟩) := hf.evalFree (by kernel_rfl)
      go_simp
      exact hK _ _ rfl (hW.upd 0 _ hr (by decide) ⟨fun e => absurd e (by decide), fun e => absurd e (by decide), fun e => absurd e (by decide), fun e => absurd e (by decide), trivial⟩)
    · intro r a w' hf hg hW hr hd K hK
      refine wpOp_of rfl rfl ?_
      refine hf.depE hg hd 0 23 (by kernel_rfl) fun u0 e0 g0 h0 => ?_
      replace g0 : u0 = .pointer (some ⟨w.heap.size, 0, none⟩) := g0
      subst g0
      have z0 := hW.kp.cell a0 nA.out
      go_simp
      exact hK _ _ rfl (hW.upd 1 _ hr (by decide) ⟨fun e => absurd e (by decide), fun e => absurd e (by decide), fun e => absurd e (by decide), fun e => absurd e (by decide), trivial⟩)
    · intro r a w' hf hg hW hr hd K hK
      refine wpOp_of rfl rfl ?_
      have e0 : a.tmps.getD 3 undef = .pointer (some ⟨w.heap.size + 1, 0, none⟩) := hf.evalFree (by kernel_rfl)
      go_simp
      exact hK _ _ rfl (hW.upd 2 _ hr (by decide) ⟨fun e => absurd e (by decide), fun e => absurd e (by decide), fun e => absurd e (by decide), fun e => absurd e (by decide), trivial⟩)
    · intro r a w' hf hg hW hr hd K hK
      refine wpOp_of rfl rfl ?_
      refine hf.depE hg hd 2 25 (by kernel_rfl) fun u0 e0 g0 h0 => ?_
      replace g0 : u0 = .pointer (some ⟨w.heap.size + 1, 0, none⟩) := g0
      subst g0
      have z0 := hW.kp.cell b0 nB.out
      go_simp
      exact hK _ _ rfl (hW.upd 3 _ hr (by decide) ⟨fun e => absurd e (by decide), fun e => absurd e (by decide), fun e => absurd e (by decide), fun e => absurd e (by decide), trivial⟩)
    · intro r a w' hf hg hW hr hd K hK
      refine wpOp_of rfl rfl ?_
      refine hf.depE hg hd 1 24 (by kernel_rfl) fun u0 e0 g0 h0 => ?_
      replace g0 : u0 = .bool s1 := g0
      subst g0
      refine hf.depE hg hd 3 26 (by kernel_rfl) fun u1 e1 g1 h1 => ?_
      replace g1 : u1 = .bool s2 := g1
      subst g1
      go_simp
      exact hK _ _ rfl (hW.upd 4 _ hr (by decide) ⟨fun e => absurd e (by decide), fun e => absurd e (by decide), fun e => absurd e (by decide), fun e => absurd e (by decide), trivial⟩)
    · intro r a w' hf hg hW hr hd K hK
      refine wpOp_of rfl rfl ?_
      have e0 : a.tmps.getD 2 undef = .pointer (some ⟨w.heap.size, 0, none⟩) := hf.evalFree (by kernel_rfl)
      go_simp
      exact hK _ _ rfl (hW.upd 5 _ hr (by decide) ⟨fun e => absurd e (by decide), fun e => absurd e (by decide), fun e => absurd e (by decide), fun e => absurd e (by decide), trivial⟩)
    · intro r a w' hf hg hW hr hd K hK
      refine wpOp_of rfl rfl ?_
      refine hf.depE hg hd 5 28 (by kernel_rfl) fun u0 e0 g0 h0 => ?_
      replace g0 : u0 = .pointer (some ⟨w.heap.size, 1, none⟩) := g0
      subst g0
      have z0 := hW.kp.cell a1 nA.out
      go_simp
      exact hK _ _ rfl (hW.upd 6 _ hr (by decide) ⟨fun e => absurd e (by decide), fun e => absurd e (by decide), fun e => absurd e (by decide), fun e => absurd e (by decide), trivial⟩)
    · intro r a w' hf hg hW hr hd K hK
      refine wpOp_of rfl rfl ?_
      have e0 : a.tmps.getD 3 undef = .pointer (some ⟨w.heap.size + 1, 0, none⟩) := hf.evalFree (by kernel_rfl)
      go_simp
      exact hK _ _ rfl (hW.upd 7 _ hr (by decide) ⟨fun e => absurd e (by decide), fun e => absurd e (by decide), fun e => absurd e (by decide), fun e => absurd e (by decide), trivial⟩)
    · intro r a w' hf hg hW hr hd K hK
      refine wpOp_of rfl rfl ?_
      refine hf.depE hg hd 7 30 (by kernel_rfl) fun u0 e0 g0 h0 => ?_
      replace g0 : u0 = .pointer (some ⟨w.heap.size + 1, 2, none⟩) := g0
      subst g0
      have z0 := hW.kp.cell b2 nB.out
      go_simp
      exact hK _ _ rfl (hW.upd 8 _ hr (by decide) ⟨fun e => absurd e (by decide), fun e => absurd e (by decide), fun e => absurd e (by decide), fun e => absurd e (by decide), trivial⟩)
    · intro r a w' hf hg hW hr hd K hK
      refine wpOp_of rfl rfl ?_
      refine hf.depE hg hd 6 29 (by kernel_rfl) fun u0 e0 g0 h0 => ?_
      replace g0 : u0 = .slice A1 m1 c1 := g0
      subst g0
      refine hf.depE hg hd 8 31 (by kernel_rfl) fun u1 e1 g1 h1 => ?_
      replace g1 : u1 = .slice A4 m4 c4 := g1
      subst g1
      go_simp
      with_reducible refine (T1.out _ (KW.out _ hW.kp)).mono ?_
      rintro e w'' ⟨z, rfl, hz, k⟩
      exact hK _ _ trivial ((hW.call FS.out k).upd 9 _ hr (by decide) ⟨fun _ => hz.mono (Nat.le_trans SB.out hW.kp.size), fun e => absurd e (by decide), fun e => absurd e (by decide), fun e => absurd e (by decide), trivial⟩)
    · intro r a w' hf hg hW hr hd K hK
      refine wpOp_of rfl rfl ?_
      have e0 : a.tmps.getD 2 undef = .pointer (some ⟨w.heap.size, 0, none⟩) := hf.evalFree (by kernel_rfl)
      go_simp
      exact hK _ _ rfl (hW.upd 10 _ hr (by decide) ⟨fun e => absurd e (by decide), fun e => absurd e (by decide), fun e => absurd e (by decide), fun e => absurd e (by decide), trivial⟩)
    · intro r a w' hf hg hW hr hd K hK
      refine wpOp_of rfl rfl ?_
      refine hf.depE hg hd 10 33 (by kernel_rfl) fun u0 e0 g0 h0 => ?_
      replace g0 : u0 = .pointer (some ⟨w.heap.size, 2, none⟩) := g0
      subst g0
      have z0 := hW.kp.cell a2 nA.out
      go_simp
      exact hK _ _ rfl (hW.upd 11 _ hr (by decide) ⟨fun e => absurd e (by decide), fun e => absurd e (by decide), fun e => absurd e (by decide), fun e => absurd e (by decide), trivial⟩)
    · intro r a w' hf hg hW hr hd K hK
      refine wpOp_of rfl rfl ?_
      have e0 : a.tmps.getD 3 undef = .pointer (some ⟨w.heap.size + 1, 0, none⟩) := hf.evalFree (by kernel_rfl)
      go_simp
      exact hK _ _ rfl (hW.upd 12 _ hr (by decide) ⟨fun e => absurd e (by decide), fun e => absurd e (by decide), fun e => absurd e (by decide), fun e => absurd e (by decide), trivial⟩)
    · intro r a w' hf hg hW hr hd K hK
      refine wpOp_of rfl rfl ?_
      refine hf.depE hg hd 12 35 (by kernel_rfl) fun u0 e0 g0 h0 => ?_
      replace g0 : u0 = .pointer (some ⟨w.heap.size + 1, 1, none⟩) := g0
      subst g0
      have z0 := hW.kp.cell b1 nB.out
      go_simp
      exact hK _ _ rfl (hW.upd 13 _ hr (by decide) ⟨fun e => absurd e (by decide), fun e => absurd e (by decide), fun e => absurd e (by decide), fun e => absurd e (by decide), trivial⟩)
    · intro r a w' hf hg hW hr hd K hK
      refine wpOp_of rfl rfl ?_
      refine hf.depE hg hd 11 34 (by kernel_rfl) fun u0 e0 g0 h0 => ?_
      replace g0 : u0 = .slice A2 m2 c2 := g0
      subst g0
      refine hf.depE hg hd 13 36 (by kernel_rfl) fun u1 e1 g1 h1 => ?_
      replace g1 : u1 = .slice A3 m3 c3 := g1
      subst g1
      go_simp
      with_reducible refine (T2.out _ (KW.out _ hW.kp)).mono ?_
      rintro e w'' ⟨z, rfl, hz, k⟩
      exact hK _ _ trivial ((hW.call FS.out k).upd 14 _ hr (by decide) ⟨fun e => absurd e (by decide), fun _ => hz.mono (Nat.le_trans SB.out hW.kp.size), fun e => absurd e (by decide), fun e => absurd e (by decide), trivial⟩)
    · intro r a w' hf hg hW hr hd K hK
      refine wpOp_of rfl rfl ?_
      refine hf.depE hg hd 4 27 (by kernel_rfl) fun u0 e0 g0 h0 => ?_
      replace g0 : u0 = .bool (s1 != s2) := g0
      subst g0
      refine hf.depE hg hd 9 32 (by kernel_rfl) fun u1 e1 g1 h1 => ?_
      have f1 := (hW.hv 9 u1 h1).1 rfl
      refine hf.depE hg hd 14 37 (by kernel_rfl) fun u2 e2 g2 h2 => ?_
      have f2 := (hW.hv 14 u2 h2).2.1 rfl
      go_simp
      with_reducible refine (LW.out _ _ _ f1.nat f2.nat).mono ?_
      rintro e w'' ⟨z, rfl, hz, k⟩
      exact hK _ _ trivial ((hW.call FS.out k).upd 15 _ hr (by decide) ⟨fun e => absurd e (by decide), fun e => absurd e (by decide), fun _ => ⟨z, rfl, hz.mono (Nat.le_trans SB.out hW.kp.size)⟩, fun e => absurd e (by decide), trivial⟩)
    · intro r a w' hf hg hW hr hd K hK
      refine wpOp_of rfl rfl ?_
      refine hf.depE hg hd 15 38 (by kernel_rfl) fun u0 e0 g0 h0 => ?_
      have f0 := (hW.hv 15 u0 h0).2.2.1 rfl
      obtain ⟨z, rfl, hz⟩ := f0
      go_simp
      exact hK _ _ trivial (hW.upd 16 _ hr (by decide) ⟨fun e => absurd e (by decide), fun e => absurd e (by decide), fun e => absurd e (by decide), fun _ => hz, trivial⟩)
    · intro r a w' hf hg hW hr hd K hK
      refine wpOp_of rfl rfl ?_
      refine hf.depE hg hd 15 38 (by kernel_rfl) fun u0 e0 g0 h0 => ?_
      have f0 := (hW.hv 15 u0 h0).2.2.1 rfl
      obtain ⟨z, rfl, hz⟩ := f0
      go_simp
      exact hK _ _ rfl (hW.upd 17 _ hr (by decide) ⟨fun e => absurd e (by decide), fun e => absurd e (by decide), fun e => absurd e (by decide), fun e => absurd e (by decide), trivial⟩)
    · intro r a w' hf hg hW hr hd K hK
      refine wpOp_of rfl rfl ?_
      have e0 : a.tmps.getD 4 undef = .pointer (some ⟨w.heap.size + 1 + 1, 0, none⟩) := hf.evalFree (by kernel_rfl)
      refine hf.depE hg hd 16 39 (by kernel_rfl) fun u1 e1 g1 h1 => ?_
      have f1 := (hW.hv 16 u1 h1).2.2.2.1 rfl
      obtain ⟨n, d, rfl, hn, hd⟩ := f1
      obtain ⟨An, mn, cn, _, rfl, _⟩ := hn.1.pos
      obtain ⟨Ad, md, cd, _, rfl, _⟩ := hd.1.pos
      obtain ⟨x0, x1, x2, y0, y1, y2⟩ := three_cells (hW.b0 hr)
      go_simp
      exact hK undef _ trivial (hW.store FB.out (by decide) h1 (kp_setQ _ _ _ _ _) (setQ_at (hW.b0 hr) _ _ _) _ ⟨fun e => absurd e (by decide), fun e => absurd e (by decide), fun e => absurd e (by decide), fun e => absurd e (by decide), trivial⟩)
    · intro r a w' hf hg hW hr hd K hK
      refine wpOp_of rfl rfl ?_
      refine hf.depE hg hd 17 40 (by kernel_rfl) fun u0 e0 g0 h0 => ?_
      replace g0 : u0 = .int .i64 0 := g0
      subst g0
      go_simp
      exact hK _ _ rfl (hW.upd 19 _ hr (by decide) ⟨fun e => absurd e (by decide), fun e => absurd e (by decide), fun e => absurd e (by decide), fun e => absurd e (by decide), trivial⟩)
  intro r' w3 hg hW hr'
  have hkN := hW.kp
  obtain ⟨q16, hq16⟩ : ∃ u, r' 16 = some u := Option.ne_none_iff_exists'.1 (hr' 16 (by decide))
  have hF16 := (hW.hv 16 q16 hq16).2.2.2.1 rfl
  obtain ⟨q19, hq19⟩ : ∃ u, r' 19 = some u := Option.ne_none_iff_exists'.1 (hr' 19 (by decide))
  have hk19 := hg 19 q19 hq19
  replace hk19 : q19 = .int .i64 0 := hk19
  subst hk19
  obtain ⟨cs, hcs, hB⟩ := hW.b1 (hr' 18 (by decide))
  simp only [List.length_cons, List.length_nil, Nat.reduceAdd, List.range_succ, List.range_zero, List.nil_append, List.cons_append, List.map_cons, List.map_nil, putAll, Act.put, List.setIfInBounds_toArray, List.set_cons_succ, List.set_cons_zero, hq16, hq19, Option.getD_some]
  clear hg hW hr' FS FB hq19
  rw [hq16] at hcs
  injection hcs with hcs
  subst hcs
  obtain ⟨n, d, e, hn, hd⟩ := hF16
  injection e with e
  subst e
  obtain ⟨z0, z1, z2, _⟩ := three_cells hB
  have F := Lib.hid (show QuoNew w.heap.size w3 (.agg #[.bool (negQ qq), n, d]) qq KK from ⟨n, d, rfl, hn.mono (by omega), hd.mono (by omega)⟩)
  have KE := Lib.hid (KW.out _ hkN)
  clear hn hd hkN hB
  go_wp2_with fail
  exact bodyPost_ret (v := .tuple #[.agg #[.bool (negQ qq), n, d], .int .i64 0]) (by simp [results, Tryz.results63, go_sem, z0, z1, z2]) rfl ⟨_, rfl, F.out, KE.out⟩
theorem three_new (w : World) (o1 o2 o3 : Obj) : (((w.alloc o1).alloc o2).alloc o3).heap[w.heap.size]? = some o1 ∧ (((w.alloc o1).alloc o2).alloc o3).heap[w.heap.size + 1]? = some o2 ∧ (((w.alloc o1).alloc o2).alloc o3).heap[w.heap.size + 1 + 1]? = some o3 ∧ Kp No w (((w.alloc o1).alloc o2).alloc o3) := by
  refine ⟨?_, ?_, ?_, ((Kp.alloc _ _ _).tr (Kp.alloc _ _ _)).tr (Kp.alloc _ _ _)⟩
  · rw [Below.heap_alloc _ _ _ (by simp <;> omega), Below.heap_alloc _ _ _ (by simp <;> omega), heap_alloc_new]
  · rw [Below.heap_alloc _ _ _ (by simp)]
    have := heap_alloc_new (w.alloc o1) o2
    simpa using this
  · have := heap_alloc_new ((w.alloc o1).alloc o2) o3
    simpa using this
theorem cmpN_bd (a b : Nat) : -1 ≤ cmpN a b ∧ cmpN a b ≤ 1 := by
  unfold cmpN
  split <;> (try split) <;> omega
set_option maxHeartbeats 2000000 in
set_option maxRecDepth 100000 in
theorem qcmp_is (u v : Value) (a b : Rat) (k m : Nat) (w : World) (hu : IsQuo w u a k) (hv : IsQuo w v b m) (hkm : k + m + 1 ≤ 300) :
    Calls Tryz.prog 68 #[u, v] w fun e w' => e = .returned (.tuple #[.int .i64 (cmpQ a b), .int .i64 0]) ∧ Kp No w w' := by
  have hu0 := hu
  have hv0 := hv
  obtain ⟨n1, d1, rfl, hn1, hd1⟩ := hu
  obtain ⟨n2, d2, rfl, hn2, hd2⟩ := hv
  have hlow := cmp_low a b (cmpN (a.num.natAbs * b.den) (b.num.natAbs * a.den)) rfl
  have hbd := cmpN_bd (a.num.natAbs * b.den) (b.num.natAbs * a.den)
  obtain ⟨s1, hs1⟩ : ∃ s, negQ a = s := ⟨_, rfl⟩
  obtain ⟨s2, hs2⟩ : ∃ s, negQ b = s := ⟨_, rfl⟩
  rw [hs1, hs2] at hlow
  rw [hs1] at hu0 ⊢
  rw [hs2] at hv0 ⊢
  rw [hlow]
  obtain ⟨KK, hKK⟩ : ∃ K, K = k + m + 1 := ⟨_, rfl⟩
  have BQ := Lib.hid (fun (g : Nat) (w0 : World) (hk0 : Kp No w w0) hh => badq_two n1 d1 n2 d2 a b s1 s2 g k m 89 w0 (by omega) (by omega) hs1 hs2 (hu0.no hk0) (hv0.no hk0) hh)
  have T1 := Lib.hid (fun (w0 : World) (hk0 : Kp No w w0) => times_new n1 d2 _ _ k m KK w0 (hn1.no hk0) (hd2.no hk0) (by omega) (by omega) (by omega))
  have T2 := Lib.hid (fun (w0 : World) (hk0 : Kp No w w0) => times_new n2 d1 _ _ m k KK w0 (hn2.no hk0) (hd1.no hk0) (by omega) (by omega) (by omega))
  have OR := Lib.hid (fun (w0 : World) (x y : Value) hx hy => order_is x y (a.num.natAbs * b.den) (b.num.natAbs * a.den) KK KK w0 hx hy (by omega) (by omega))
  generalize cmpN (a.num.natAbs * b.den) (b.num.natAbs * a.den) = cc at *
  generalize a.num.natAbs = x1 at *
  generalize b.num.natAbs = x2 at *
  generalize a.den = y1 at *
  generalize b.den = y2 at *
  clear hlow hs1 hs2
  obtain ⟨A1, m1, c1, _, rfl, _⟩ := hn1.pos
  obtain ⟨A2, m2, c2, _, rfl, _⟩ := hd1.pos
  obtain ⟨A3, m3, c3, _, rfl, _⟩ := hn2.pos
  obtain ⟨A4, m4, c4, _, rfl, _⟩ := hd2.pos
  clear hn1 hn2 hd1 hd2 hu0 hv0 hKK
  obtain ⟨h1, h2, h4, KA⟩ := three_new w (.cells #[.bool s1, .slice A1 m1 c1, .slice A2 m2 c2] 89) (.cells #[.bool s2, .slice A3 m3 c3, .slice A4 m4 c4] 89) (.cells #[.bool s1, .slice A1 m1 c1, .slice A2 m2 c2, .bool s2, .slice A3 m3 c3, .slice A4 m4 c4] 89)
  replace h1 := Lib.hid h1
  replace h2 := Lib.hid h2
  replace h4 := Lib.hid h4
  replace KA := Lib.hid KA
  have hneg : IntKind.i64.wrap (-cc) = -cc := by rw [IntKind.wrap_i64]; omega
  go_enter Tryz.func68, Tryz.ntmps68
  go_wp2_with fail
  refine (BQ.out _ _ KA.out h4.out).mono ?_
  rintro _ wb ⟨rfl, kb⟩
  have KB := Lib.hid (KA.out.tr kb)
  have HB1 := kb.heap h1.out id
  have HB2 := kb.heap h2.out id
  have SB := Lib.hid (show w.heap.size + 1 + 1 + 1 ≤ wb.heap.size from (Array.getElem?_eq_some_iff.1 (kb.heap h4.out id)).1)
  obtain ⟨a0, a1, a2, _⟩ := three_cells HB1
  obtain ⟨b0, b1, b2, _⟩ := three_cells HB2
  clear h1 h2 h4 KA kb HB1 HB2 BQ
  go_wp2_with fail
  have FS : Stab (fun i wz u => (i = 4 → IsNew (w.heap.size + 1 + 1 + 1) wz u (x1 * y2) KK) ∧ (i = 9 → IsNew (w.heap.size + 1 + 1 + 1) wz u (x2 * y1) KK) ∧ True) := fun i u wz wz' k h => ⟨fun e => IsNew.no (h.1 e) k, fun e => IsNew.no (h.2.1 e) k, trivial⟩
  have FS := Lib.hid FS
  refine wp_region_each (fun i u => match i with | 0 => u = .pointer (some ⟨w.heap.size, 1, none⟩) | 1 => u = .slice A1 m1 c1 | 2 => u = .pointer (some ⟨w.heap.size + 1, 2, none⟩) | 3 => u = .slice A4 m4 c4 | 5 => u = .pointer (some ⟨w.heap.size + 1, 1, none⟩) | 6 => u = .slice A3 m3 c3 | 7 => u = .pointer (some ⟨w.heap.size, 2, none⟩) | 8 => u = .slice A2 m2 c2 | 10 => u = .int .i64 cc | 11 => u = .int .i64 cc | _ => True) (HvW wb (fun i wz u => (i = 4 → IsNew (w.heap.size + 1 + 1 + 1) wz u (x1 * y2) KK) ∧ (i = 9 → IsNew (w.heap.size + 1 + 1 + 1) wz u (x2 * y1) KK) ∧ True)) (by kernel_rfl) (by kernel_rfl) (by kernel_rfl) ?_ ?_ ?_
  · exact HvW.start _ _
  · refine ⟨?_, ?_, ?_, ?_, ?_, ?_, ?_, ?_, ?_, ?_, ?_, ?_, trivial⟩
    · intro r a w' hf hg hW hr hd K hK
      refine wpOp_of rfl rfl ?_
      have e0 : a.tmps.getD 2 undef = .pointer (some ⟨w.heap.size, 0, none⟩) := hf.evalFree (by kernel_rfl)
      go_simp
      exact hK _ _ rfl (hW.upd 0 _ ⟨fun e => absurd e (by decide), fun e => absurd e (by decide), trivial⟩)
    · intro r a w' hf hg hW hr hd K hK
      refine wpOp_of rfl rfl ?_
      refine hf.depE hg hd 0 15 (by kernel_rfl) fun u0 e0 g0 h0 => ?_
      replace g0 : u0 = .pointer (some ⟨w.heap.size, 1, none⟩) := g0
      subst g0
      have z0 := hW.kp.cell a1 id
      go_simp
      exact hK _ _ rfl (hW.upd 1 _ ⟨fun e => absurd e (by decide), fun e => absurd e (by decide), trivial⟩)
    · intro r a w' hf hg hW hr hd K hK
      refine wpOp_of rfl rfl ?_
      have e0 : a.tmps.getD 3 undef = .pointer (some ⟨w.heap.size + 1, 0, none⟩) := hf.evalFree (by kernel_rfl)
      go_simp
      exact hK _ _ rfl (hW.upd 2 _ ⟨fun e => absurd e (by decide), fun e => absurd e (by decide), trivial⟩)
    · intro r a w' hf hg hW hr hd K hK
      refine wpOp_of rfl rfl ?_
      refine hf.depE hg hd 2 17 (by kernel_rfl) fun u0 e0 g0 h0 => ?_
      replace g0 : u0 = .pointer (some ⟨w.heap.size + 1, 2, none⟩) := g0
      subst g0
      have z0 := hW.kp.cell b2 id
      go_simp
      exact hK _ _ rfl (hW.upd 3 _ ⟨fun e => absurd e (by decide), fun e => absurd e (by decide), trivial⟩)
    · intro r a w' hf hg hW hr hd K hK
      refine wpOp_of rfl rfl ?_
      refine hf.depE hg hd 1 16 (by kernel_rfl) fun u0 e0 g0 h0 => ?_
      replace g0 : u0 = .slice A1 m1 c1 := g0
      subst g0
      refine hf.depE hg hd 3 18 (by kernel_rfl) fun u1 e1 g1 h1 => ?_
      replace g1 : u1 = .slice A4 m4 c4 := g1
      subst g1
      go_simp
      with_reducible refine (T1.out _ (KB.out.tr hW.kp)).mono ?_
      rintro e w'' ⟨z, rfl, hz, k⟩
      exact hK _ _ trivial ((hW.call FS.out k).upd 4 _ ⟨fun _ => hz.mono (Nat.le_trans SB.out hW.kp.size), fun e => absurd e (by decide), trivial⟩)
    · intro r a w' hf hg hW hr hd K hK
      refine wpOp_of rfl rfl ?_
      have e0 : a.tmps.getD 3 undef = .pointer (some ⟨w.heap.size + 1, 0, none⟩) := hf.evalFree (by kernel_rfl)
      go_simp
      exact hK _ _ rfl (hW.upd 5 _ ⟨fun e => absurd e (by decide), fun e => absurd e (by decide), trivial⟩)
    · intro r a w' hf hg hW hr hd K hK
      refine wpOp_of rfl rfl ?_
      refine hf.depE hg hd 5 20 (by kernel_rfl) fun u0 e0 g0 h0 => ?_
      replace g0 : u0 = .pointer (some ⟨w.heap.size + 1, 1, none⟩) := g0
      subst g0
      have z0 := hW.kp.cell b1 id
      go_simp
      exact hK _ _ rfl (hW.upd 6 _ ⟨fun e => absurd e (by decide), fun e => absurd e (by decide), trivial⟩)
    · intro r a w' hf hg hW hr hd K hK
      refine wpOp_of rfl rfl ?_
      have e0 : a.tmps.getD 2 undef = .pointer (some ⟨w.heap.size, 0, none⟩) := hf.evalFree (by kernel_rfl)
      go_simp
      exact hK _ _ rfl (hW.upd 7 _ ⟨fun e => absurd e (by decide), fun e => absurd e (by decide), trivial⟩)
    · intro r a w' hf hg hW hr hd K hK
      refine wpOp_of rfl rfl ?_
      refine hf.depE hg hd 7 22 (by kernel_rfl) fun u0 e0 g0 h0 => ?_
      replace g0 : u0 = .pointer (some ⟨w.heap.size, 2, none⟩) := g0
      subst g0
      have z0 := hW.kp.cell a2 id
      go_simp
      exact hK _ _ rfl (hW.upd 8 _ ⟨fun e => absurd e (by decide), fun e => absurd e (by decide), trivial⟩)
    · intro r a w' hf hg hW hr hd K hK
      refine wpOp_of rfl rfl ?_
      refine hf.depE hg hd 6 21 (by kernel_rfl) fun u0 e0 g0 h0 => ?_
      replace g0 : u0 = .slice A3 m3 c3 := g0
      subst g0
      refine hf.depE hg hd 8 23 (by kernel_rfl) fun u1 e1 g1 h1 => ?_
      replace g1 : u1 = .slice A2 m2 c2 := g1
      subst g1
      go_simp
      with_reducible refine (T2.out _ (KB.out.tr hW.kp)).mono ?_
      rintro e w'' ⟨z, rfl, hz, k⟩
      exact hK _ _ trivial ((hW.call FS.out k).upd 9 _ ⟨fun e => absurd e (by decide), fun _ => hz.mono (Nat.le_trans SB.out hW.kp.size), trivial⟩)
    · intro r a w' hf hg hW hr hd K hK
      refine wpOp_of rfl rfl ?_
      refine hf.depE hg hd 4 19 (by kernel_rfl) fun u0 e0 g0 h0 => ?_
      have f0 := (hW.hv 4 u0 h0).1 rfl
      refine hf.depE hg hd 9 24 (by kernel_rfl) fun u1 e1 g1 h1 => ?_
      have f1 := (hW.hv 9 u1 h1).2.1 rfl
      go_simp
      with_reducible refine (OR.out _ _ _ f0.nat f1.nat).mono ?_
      rintro e w'' ⟨rfl, rfl⟩
      exact hK _ _ rfl (hW.upd 10 _ ⟨fun e => absurd e (by decide), fun e => absurd e (by decide), trivial⟩)
    · intro r a w' hf hg hW hr hd K hK
      refine wpOp_of rfl rfl ?_
      refine hf.depE hg hd 10 25 (by kernel_rfl) fun u0 e0 g0 h0 => ?_
      replace g0 : u0 = .int .i64 cc := g0
      subst g0
      go_simp
      exact hK _ _ rfl (hW.upd 11 _ ⟨fun e => absurd e (by decide), fun e => absurd e (by decide), trivial⟩)
  intro r' w3 hg hW hr'
  have hkN := hW.kp
  obtain ⟨q11, hq11⟩ : ∃ u, r' 11 = some u := Option.ne_none_iff_exists'.1 (hr' 11 (by decide))
  have hk11 := hg 11 q11 hq11
  replace hk11 : q11 = .int .i64 cc := hk11
  subst hk11
  simp only [List.length_cons, List.length_nil, Nat.reduceAdd, List.range_succ, List.range_zero, List.nil_append, List.cons_append, List.map_cons, List.map_nil, putAll, Act.put, List.setIfInBounds_toArray, List.set_cons_succ, List.set_cons_zero, hq11, Option.getD_some]
  clear hg hW hr' FS hq11
  replace a0 := hkN.cell a0 id
  replace b0 := hkN.cell b0 id
  have KE := Lib.hid (KB.out.tr hkN)
  clear a1 a2 b1 b2 hkN hbd
  cases s1 <;> cases s2
  all_goals
    go_wp2_with fail
    refine bodyPost_ret (v := .tuple #[.int .i64 _, .int .i64 0]) (by simp [results, Tryz.results68, go_sem]) rfl ⟨rfl, KE.out⟩
end Go.Proofs.YtakgcnjpmpcekaaGreat
