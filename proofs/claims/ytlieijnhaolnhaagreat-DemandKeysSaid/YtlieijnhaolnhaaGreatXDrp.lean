/- Chapter 13: Drop: the walk. Printed by gen_drp.py. -/
import Derived.Test.YtlieijnhaolnhaaGreatXChkM
import Derived.Test.YtlieijnhaolnhaaGreatXLibBoxM
namespace Go.Proofs.YtlieijnhaolnhaaGreat
open Go.RowKit Go.Kq

set_option maxHeartbeats 2000000 in
theorem drop_v (b f p q : Int) (w : World) (d1 : toeB b f = false) : Calls Tryz.prog 10 #[toeV b f, .int .i64 p, .int .i64 q] w fun e w' => e = .returned (ieV (0, 0, 2)) ∧ Kp No w w' := by
  have V1 := Lib.hid (valid_any b f)
  rw [d1] at V1
  simp only [ieV, ivV, toeV] at V1 ⊢
  go_enter Tryz.func10, Tryz.ntmps10
  go_wp2_with fail
  refine (V1.out _).mono ?_
  rintro e w2 ⟨rfl, k2⟩
  obtain ⟨r0, r1, z0, z1⟩ := two_cells (k2.heap (at_new (n := w.heap.size + 1) (by simp)) id)
  obtain ⟨b0, b1, _, _⟩ := two_cells (k2.heap ((Kp.alloc No _ _).heap (at_new (n := w.heap.size) rfl) id) id)
  have R := Lib.hid (k2.heap (at_new (n := w.heap.size + 1) (by simp)) id)
  have KP := Lib.hid (((Kp.alloc No w _).tr (Kp.alloc No _ _)).tr k2)
  have hz2 : w.heap.size + 1 < w2.heap.size := by have := k2.size; simp at this; omega
  clear k2
  go_wp2_with fail
  exact bodyPost_ret (v := .tuple #[.agg #[.int .i64 0, .int .i64 0], .int .i64 2]) (by simp [results, Tryz.results10, go_sem, r0, r1]) rfl ⟨rfl, kp_set2 KP.out (by omega)⟩
set_option maxHeartbeats 2000000 in
theorem drop_p (b f p q : Int) (w : World) (d1 : toeB b f = true) (d2 : preB p = false) : Calls Tryz.prog 10 #[toeV b f, .int .i64 p, .int .i64 q] w fun e w' => e = .returned (ieV (0, 0, 2)) ∧ Kp No w w' := by
  have V1 := Lib.hid (valid_any b f)
  rw [d1] at V1
  have V2 := Lib.hid (press_any p)
  rw [d2] at V2
  simp only [ieV, ivV, toeV] at V1 ⊢
  go_enter Tryz.func10, Tryz.ntmps10
  go_wp2_with fail
  refine (V1.out _).mono ?_
  rintro e w2 ⟨rfl, k2⟩
  obtain ⟨r0, r1, z0, z1⟩ := two_cells (k2.heap (at_new (n := w.heap.size + 1) (by simp)) id)
  obtain ⟨b0, b1, _, _⟩ := two_cells (k2.heap ((Kp.alloc No _ _).heap (at_new (n := w.heap.size) rfl) id) id)
  have R := Lib.hid (k2.heap (at_new (n := w.heap.size + 1) (by simp)) id)
  have KP := Lib.hid (((Kp.alloc No w _).tr (Kp.alloc No _ _)).tr k2)
  have hz2 : w.heap.size + 1 < w2.heap.size := by have := k2.size; simp at this; omega
  clear k2
  go_wp2_with fail
  refine (V2.out _).mono ?_
  rintro e w3 ⟨rfl, rfl⟩
  go_wp2_with fail
  exact bodyPost_ret (v := .tuple #[.agg #[.int .i64 0, .int .i64 0], .int .i64 2]) (by simp [results, Tryz.results10, go_sem, r0, r1]) rfl ⟨rfl, kp_set2 KP.out (by omega)⟩
set_option maxHeartbeats 2000000 in
theorem drop_q (b f p q : Int) (w : World) (d1 : toeB b f = true) (d2 : preB p = true) (d3 : preB q = false) : Calls Tryz.prog 10 #[toeV b f, .int .i64 p, .int .i64 q] w fun e w' => e = .returned (ieV (0, 0, 2)) ∧ Kp No w w' := by
  have V1 := Lib.hid (valid_any b f)
  rw [d1] at V1
  have V2 := Lib.hid (press_any p)
  rw [d2] at V2
  have V3 := Lib.hid (press_any q)
  rw [d3] at V3
  simp only [ieV, ivV, toeV] at V1 ⊢
  go_enter Tryz.func10, Tryz.ntmps10
  go_wp2_with fail
  refine (V1.out _).mono ?_
  rintro e w2 ⟨rfl, k2⟩
  obtain ⟨r0, r1, z0, z1⟩ := two_cells (k2.heap (at_new (n := w.heap.size + 1) (by simp)) id)
  obtain ⟨b0, b1, _, _⟩ := two_cells (k2.heap ((Kp.alloc No _ _).heap (at_new (n := w.heap.size) rfl) id) id)
  have R := Lib.hid (k2.heap (at_new (n := w.heap.size + 1) (by simp)) id)
  have KP := Lib.hid (((Kp.alloc No w _).tr (Kp.alloc No _ _)).tr k2)
  have hz2 : w.heap.size + 1 < w2.heap.size := by have := k2.size; simp at this; omega
  clear k2
  go_wp2_with fail
  refine (V2.out _).mono ?_
  rintro e w3 ⟨rfl, rfl⟩
  go_wp2_with fail
  refine (V3.out _).mono ?_
  rintro e w3 ⟨rfl, rfl⟩
  go_wp2_with fail
  exact bodyPost_ret (v := .tuple #[.agg #[.int .i64 0, .int .i64 0], .int .i64 2]) (by simp [results, Tryz.results10, go_sem, r0, r1]) rfl ⟨rfl, kp_set2 KP.out (by omega)⟩
set_option maxHeartbeats 2000000 in
theorem drop_r (b f p q : Int) (w : World) (d1 : toeB b f = true) (d2 : preB p = true) (d3 : preB q = true) (hpq : p < q) : Calls Tryz.prog 10 #[toeV b f, .int .i64 p, .int .i64 q] w fun e w' => e = .returned (ieV (0, 0, 7)) ∧ Kp No w w' := by
  have V1 := Lib.hid (valid_any b f)
  rw [d1] at V1
  have V2 := Lib.hid (press_any p)
  rw [d2] at V2
  have V3 := Lib.hid (press_any q)
  rw [d3] at V3
  simp only [ieV, ivV, toeV] at V1 ⊢
  go_enter Tryz.func10, Tryz.ntmps10
  go_wp2_with fail
  refine (V1.out _).mono ?_
  rintro e w2 ⟨rfl, k2⟩
  obtain ⟨r0, r1, z0, z1⟩ := two_cells (k2.heap (at_new (n := w.heap.size + 1) (by simp)) id)
  obtain ⟨b0, b1, _, _⟩ := two_cells (k2.heap ((Kp.alloc No _ _).heap (at_new (n := w.heap.size) rfl) id) id)
  have R := Lib.hid (k2.heap (at_new (n := w.heap.size + 1) (by simp)) id)
  have KP := Lib.hid (((Kp.alloc No w _).tr (Kp.alloc No _ _)).tr k2)
  have hz2 : w.heap.size + 1 < w2.heap.size := by have := k2.size; simp at this; omega
  clear k2
  go_wp2_with fail
  refine (V2.out _).mono ?_
  rintro e w3 ⟨rfl, rfl⟩
  go_wp2_with fail
  refine (V3.out _).mono ?_
  rintro e w3 ⟨rfl, rfl⟩
  go_wp2_with fail
  exact bodyPost_ret (v := .tuple #[.agg #[.int .i64 0, .int .i64 0], .int .i64 7]) (by simp [results, Tryz.results10, go_sem, r0, r1]) rfl ⟨rfl, kp_set2 KP.out (by omega)⟩
set_option maxHeartbeats 4000000 in
set_option maxRecDepth 100000 in
theorem drop_ok (b f p q : Int) (w : World) (d1 : toeB b f = true) (d2 : preB p = true) (d3 : preB q = true) (hpq : q ≤ p) : Calls Tryz.prog 10 #[toeV b f, .int .i64 p, .int .i64 q] w fun e w' => e = .returned (ieV (max (tlo b f p - thi b f q) 0, thi b f p - tlo b f q, 0)) ∧ Kp No w w' := by
  have V1 := Lib.hid (valid_any b f)
  rw [d1] at V1
  have V2 := Lib.hid (press_any p)
  rw [d2] at V2
  have V3 := Lib.hid (press_any q)
  rw [d3] at V3
  obtain ⟨t1, t2⟩ := toeB_of d1
  have T1 := Lib.hid (fun w0 => takes_any b f p w0 t1 t2 (preB_of d2))
  have T2 := Lib.hid (fun w0 => takes_any b f q w0 t1 t2 (preB_of d3))
  have pb := preB_of d2
  have qb := preB_of d3
  have n1 := tlo_nn (b := b) (f := f) (p := p) (by omega) (by omega)
  have n2 := tlo_nn (b := b) (f := f) (p := q) (by omega) (by omega)
  have m1 := tlo_thi (b := b) (f := f) (p := p) (by omega) (by omega) (by omega)
  have m2 := tlo_thi (b := b) (f := f) (p := q) (by omega) (by omega) (by omega)
  have l1 := thi_le (b := b) (f := f) (p := p) (by omega) (by omega) (by omega) (by omega) (by omega) (by omega)
  have l2 := thi_le (b := b) (f := f) (p := q) (by omega) (by omega) (by omega) (by omega) (by omega) (by omega)
  clear t1 t2 pb qb
  simp only [ieV, ivV, toeV] at V1 T1 T2 ⊢
  generalize tlo b f p = x1 at *
  generalize thi b f p = y1 at *
  generalize tlo b f q = x2 at *
  generalize thi b f q = y2 at *
  generalize hM : max (x1 - y2) 0 = M
  go_enter Tryz.func10, Tryz.ntmps10
  go_wp2_with fail
  refine (V1.out _).mono ?_
  rintro e w2 ⟨rfl, k2⟩
  obtain ⟨r0, r1, z0, z1⟩ := two_cells (k2.heap (at_new (n := w.heap.size + 1) (by simp)) id)
  obtain ⟨b0, b1, _, _⟩ := two_cells (k2.heap ((Kp.alloc No _ _).heap (at_new (n := w.heap.size) rfl) id) id)
  have R := Lib.hid (k2.heap (at_new (n := w.heap.size + 1) (by simp)) id)
  have KP := Lib.hid (((Kp.alloc No w _).tr (Kp.alloc No _ _)).tr k2)
  have hz2 : w.heap.size + 1 < w2.heap.size := by have := k2.size; simp at this; omega
  clear k2
  go_wp2_with fail
  refine (V2.out _).mono ?_
  rintro e w3 ⟨rfl, rfl⟩
  go_wp2_with fail
  refine (V3.out _).mono ?_
  rintro e w3 ⟨rfl, rfl⟩
  go_wp2_with fail
  have HV : ∀ y ∈ [(⟨6, 8, 25, #[.int .i64 0, .int .i64 0], #[.int .i64 x1, .int .i64 y1], ptrV⟩ : Bx), (⟨7, 9, 25, #[.int .i64 0, .int .i64 0], #[.int .i64 x2, .int .i64 y2], ptrV⟩ : Bx)], ∀ {p q : Nat}, y.v p = y.v q → p = q := by intro y hy; simp only [List.mem_cons, List.not_mem_nil, or_false] at hy; rcases hy with rfl | rfl <;> exact fun {p q} h => ptrV_inj h
  have HS0 : ∀ y ∈ [(⟨6, 8, 25, #[.int .i64 0, .int .i64 0], #[.int .i64 x1, .int .i64 y1], ptrV⟩ : Bx), (⟨7, 9, 25, #[.int .i64 0, .int .i64 0], #[.int .i64 x2, .int .i64 y2], ptrV⟩ : Bx)], y.a = (⟨6, 8, 25, #[.int .i64 0, .int .i64 0], #[.int .i64 x1, .int .i64 y1], ptrV⟩ : Bx).a → y = (⟨6, 8, 25, #[.int .i64 0, .int .i64 0], #[.int .i64 x1, .int .i64 y1], ptrV⟩ : Bx) := by intro y hy; simp only [List.mem_cons, List.not_mem_nil, or_false] at hy; rcases hy with rfl | rfl <;> simp
  have HM0 : (⟨6, 8, 25, #[.int .i64 0, .int .i64 0], #[.int .i64 x1, .int .i64 y1], ptrV⟩ : Bx) ∈ [(⟨6, 8, 25, #[.int .i64 0, .int .i64 0], #[.int .i64 x1, .int .i64 y1], ptrV⟩ : Bx), (⟨7, 9, 25, #[.int .i64 0, .int .i64 0], #[.int .i64 x2, .int .i64 y2], ptrV⟩ : Bx)] := by simp
  have HS1 : ∀ y ∈ [(⟨6, 8, 25, #[.int .i64 0, .int .i64 0], #[.int .i64 x1, .int .i64 y1], ptrV⟩ : Bx), (⟨7, 9, 25, #[.int .i64 0, .int .i64 0], #[.int .i64 x2, .int .i64 y2], ptrV⟩ : Bx)], y.a = (⟨7, 9, 25, #[.int .i64 0, .int .i64 0], #[.int .i64 x2, .int .i64 y2], ptrV⟩ : Bx).a → y = (⟨7, 9, 25, #[.int .i64 0, .int .i64 0], #[.int .i64 x2, .int .i64 y2], ptrV⟩ : Bx) := by intro y hy; simp only [List.mem_cons, List.not_mem_nil, or_false] at hy; rcases hy with rfl | rfl <;> simp
  have HM1 : (⟨7, 9, 25, #[.int .i64 0, .int .i64 0], #[.int .i64 x2, .int .i64 y2], ptrV⟩ : Bx) ∈ [(⟨6, 8, 25, #[.int .i64 0, .int .i64 0], #[.int .i64 x1, .int .i64 y1], ptrV⟩ : Bx), (⟨7, 9, 25, #[.int .i64 0, .int .i64 0], #[.int .i64 x2, .int .i64 y2], ptrV⟩ : Bx)] := by simp
  have HS0 := Lib.hid HS0
  have HM0 := Lib.hid HM0
  have HS1 := Lib.hid HS1
  have HM1 := Lib.hid HM1
  have HV := Lib.hid HV
  refine wp_region_each (fun i u => match i with | 0 => u = .agg #[.int .i64 b, .int .i64 f] | 1 => u = .int .i64 p | 2 => u = .agg #[.int .i64 x1, .int .i64 y1] | 3 => u = .agg #[.int .i64 b, .int .i64 f] | 4 => u = .int .i64 q | 5 => u = .agg #[.int .i64 x2, .int .i64 y2] | _ => True) (BxW w2 [(⟨6, 8, 25, #[.int .i64 0, .int .i64 0], #[.int .i64 x1, .int .i64 y1], ptrV⟩ : Bx), (⟨7, 9, 25, #[.int .i64 0, .int .i64 0], #[.int .i64 x2, .int .i64 y2], ptrV⟩ : Bx)]) (by kernel_rfl) (by kernel_rfl) (by kernel_rfl) ?_ ?_ ?_
  · exact BxW.start _ _
  · refine ⟨?_, ?_, ?_, ?_, ?_, ?_, ?_, ?_, ?_, ?_, trivial⟩
    · intro r a w' hf hg hW hr hd K hK
      refine wpOp_of rfl rfl ?_
      have y0 : a.tmps.getD 3 undef = .pointer (some ⟨w.heap.size, 0, none⟩) := hf.evalFree (by kernel_rfl)
      have z0 := hW.kp.cell b0 id
      have z1 := hW.kp.cell b1 id
      go_simp
      exact hK _ _ rfl (hW.upd (by kernel_rfl) _)
    · intro r a w' hf hg hW hr hd K hK
      refine wpOp_of rfl rfl ?_
      have y0 : a.tmps.getD 1 undef = .int .i64 p := hf.evalFree (by kernel_rfl)
      go_simp
      exact hK _ _ rfl (hW.upd (by kernel_rfl) _)
    · intro r a w' hf hg hW hr hd K hK
      refine wpOp_of rfl rfl ?_
      refine hf.depE hg hd 0 30 (by kernel_rfl) fun u0 e0 g0 h0 => ?_
      replace g0 : u0 = .agg #[.int .i64 b, .int .i64 f] := g0
      subst g0
      refine hf.depE hg hd 1 31 (by kernel_rfl) fun u1 e1 g1 h1 => ?_
      replace g1 : u1 = .int .i64 p := g1
      subst g1
      go_simp
      with_reducible refine (T1.out _).mono ?_
      rintro e w'' ⟨rfl, k⟩
      exact hK _ _ rfl ((hW.call k).upd (by kernel_rfl) _)
    · intro r a w' hf hg hW hr hd K hK
      refine wpOp_of rfl rfl ?_
      have y0 : a.tmps.getD 3 undef = .pointer (some ⟨w.heap.size, 0, none⟩) := hf.evalFree (by kernel_rfl)
      have z0 := hW.kp.cell b0 id
      have z1 := hW.kp.cell b1 id
      go_simp
      exact hK _ _ rfl (hW.upd (by kernel_rfl) _)
    · intro r a w' hf hg hW hr hd K hK
      refine wpOp_of rfl rfl ?_
      have y0 : a.tmps.getD 2 undef = .int .i64 q := hf.evalFree (by kernel_rfl)
      go_simp
      exact hK _ _ rfl (hW.upd (by kernel_rfl) _)
    · intro r a w' hf hg hW hr hd K hK
      refine wpOp_of rfl rfl ?_
      refine hf.depE hg hd 3 33 (by kernel_rfl) fun u0 e0 g0 h0 => ?_
      replace g0 : u0 = .agg #[.int .i64 b, .int .i64 f] := g0
      subst g0
      refine hf.depE hg hd 4 34 (by kernel_rfl) fun u1 e1 g1 h1 => ?_
      replace g1 : u1 = .int .i64 q := g1
      subst g1
      go_simp
      with_reducible refine (T2.out _).mono ?_
      rintro e w'' ⟨rfl, k⟩
      exact hK _ _ rfl ((hW.call k).upd (by kernel_rfl) _)
    · intro r a w' hf hg hW hr hd K hK
      refine wpOp_of rfl rfl ?_
      go_simp
      exact hK _ _ trivial (hW.alloc (by kernel_rfl) HM0.out hr HV.out HS0.out)
    · intro r a w' hf hg hW hr hd K hK
      refine wpOp_of rfl rfl ?_
      go_simp
      exact hK _ _ trivial (hW.alloc (by kernel_rfl) HM1.out hr HV.out HS1.out)
    · intro r a w' hf hg hW hr hd K hK
      refine wpOp_of rfl rfl ?_
      refine hf.depE hg hd 2 32 (by kernel_rfl) fun u0 e0 g0 h0 => ?_
      replace g0 : u0 = .agg #[.int .i64 x1, .int .i64 y1] := g0
      subst g0
      refine hf.depE hg hd 6 8 (by kernel_rfl) fun u1 e1 _ h1 => ?_
      obtain ⟨g, hu, hgl, _, hz⟩ := hW.empty HM0.out hr h1
      subst hu
      simp only [ptrV] at e1
      obtain ⟨a0, a1, f0, f1⟩ := two_cells hz
      go_simp
      exact hK undef _ trivial (hW.store (by kernel_rfl) HM0.out h1 hgl HV.out HS0.out (kp_two _ _ _ _) (set2 (.int .i64 x1) (.int .i64 y1) hz) _)
    · intro r a w' hf hg hW hr hd K hK
      refine wpOp_of rfl rfl ?_
      refine hf.depE hg hd 5 35 (by kernel_rfl) fun u0 e0 g0 h0 => ?_
      replace g0 : u0 = .agg #[.int .i64 x2, .int .i64 y2] := g0
      subst g0
      refine hf.depE hg hd 7 9 (by kernel_rfl) fun u1 e1 _ h1 => ?_
      obtain ⟨g, hu, hgl, _, hz⟩ := hW.empty HM1.out hr h1
      subst hu
      simp only [ptrV] at e1
      obtain ⟨a0, a1, f0, f1⟩ := two_cells hz
      go_simp
      exact hK undef _ trivial (hW.store (by kernel_rfl) HM1.out h1 hgl HV.out HS1.out (kp_two _ _ _ _) (set2 (.int .i64 x2) (.int .i64 y2) hz) _)
  intro r' w3 hg hW hr'
  obtain ⟨g0, hg0, hl0, hm0, hb0⟩ := hW.filled HM0.out (hr' 8 (by decide))
  obtain ⟨g1, hg1, hl1, hm1, hb1⟩ := hW.filled HM1.out (hr' 9 (by decide))
  have hkN := hW.kp
  have hn01 : g0 ≠ g1 := hW.ne _ HM0.out _ HM1.out (show (6 : Nat) ≠ 7 from by decide) _ _ hg0 hg1
  replace hg0 : r' 6 = some (.pointer (some ⟨g0, 0, none⟩)) := hg0
  replace hg1 : r' 7 = some (.pointer (some ⟨g1, 0, none⟩)) := hg1
  simp only [List.length_cons, List.length_nil, Nat.reduceAdd, List.range_succ, List.range_zero, List.nil_append, List.cons_append, List.map_cons, List.map_nil, putAll, Act.put, List.setIfInBounds_toArray, List.set_cons_succ, List.set_cons_zero, hg0, hg1, Option.getD_some]
  clear hg hW hr' hg0 HM0 HS0 hg1 HM1 HS1 HV
  have hR := hkN.heap R.out id
  obtain ⟨c0, c1, c2, c3⟩ := two_cells hR
  obtain ⟨a0, a1, _, _⟩ := two_cells hb0
  obtain ⟨e0, e1, _, _⟩ := two_cells hb1
  have HK := Lib.hid hkN
  clear hb0 hb1 hkN hR r0 r1 z0 z1 b0 b1
  have wa : IntKind.i64.wrap (x1 - y2) = x1 - y2 := by rw [IntKind.wrap_i64]; omega
  have wb : IntKind.i64.wrap (y1 - x2) = y1 - x2 := by rw [IntKind.wrap_i64]; omega
  have hgl0 : w.heap.size + 1 ≠ g0 := by omega
  have hgl1 : w.heap.size + 1 ≠ g1 := by omega
  clear n1 n2 m1 m2 l1 l2 hpq hl0 hm0 hl1 hm1 hz2 d1 d2 d3 V1 V2 V3 T1 T2 hn01
  go_wp2_with fail
  exact bodyPost_ret (v := .tuple #[.agg #[.int .i64 M, .int .i64 (y1 - x2)], .int .i64 0]) (by simp [results, Tryz.results10, go_sem, c0, c1]) rfl ⟨rfl, kp_set2 (KP.out.tr HK.out) (by omega)⟩
/-- What Drop gives. -/
def drpE (b f p q : Int) : IvE := if (toeB b f && preB p && preB q) = true then (if p < q then (0, 0, 7) else (max (tlo b f p - thi b f q) 0, thi b f p - tlo b f q, 0)) else (0, 0, 2)
theorem Drop_any (b f p q : Int) (w : World) : Calls Tryz.prog 10 #[toeV b f, .int .i64 p, .int .i64 q] w fun e w' => e = .returned (ieV (drpE b f p q)) ∧ Kp No w w' := by
  unfold drpE
  cases d1 : toeB b f
  · exact drop_v b f p q w d1
  · cases d2 : preB p
    · exact drop_p b f p q w d1 d2
    · cases d3 : preB q
      · exact drop_q b f p q w d1 d2 d3
      · simp only [Bool.and_self, if_true]
        by_cases h : p < q
        · rw [if_pos h]
          exact drop_r b f p q w d1 d2 d3 h
        · rw [if_neg h]
          exact drop_ok b f p q w d1 d2 d3 (by omega)
end Go.Proofs.YtlieijnhaolnhaaGreat
