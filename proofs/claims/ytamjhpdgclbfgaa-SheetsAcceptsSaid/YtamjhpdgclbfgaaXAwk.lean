/- Chapter 09: awake: the walk. Printed by gen_awk.py. -/
import Derived.StillTailTactics
import Derived.Test.YtamjhpdgclbfgaaXAwPM
import Derived.Test.YtamjhpdgclbfgaaXLibHvM
namespace Go.Proofs.Ytamjhpdgclbfgaa
open Go.RowKit Go.Kq

set_option maxHeartbeats 8000000 in
set_option maxRecDepth 100000 in
theorem awake_any (w : World) : Calls Try.prog 8 #[] w fun e w' => e = .returned (.bool true) ∧ Kp No w w' := by
  have HB := Lib.hid (fun w0 => Body_any 100000 1000000 5000 w0)
  have HF := Lib.hid (fun w0 => Foot_any 100000 0 200000 0 w0)
  have HW := Lib.hid (fun w0 => Weight_any 1000000000000 1000 11340 w0)
  rw [ex_body] at HB
  rw [ex_foot] at HF
  rw [ex_wgt] at HW
  simp only [Ct.val, ieV, ivV] at HB HF HW
  have HCU := Lib.hid (fun a b w0 => cut_any a b w0)
  have HSP := Lib.hid (fun a b c d w0 => spot_any a b c d w0)
  simp only [Ct.val, Spo.val] at HCU HSP
  have hk0 : Kp No w (w.alloc (.cells #[.int .i64 10, .int .i64 10, .int .i64 0] 23)) := Kp.alloc _ _ _
  obtain ⟨gp, hgp⟩ : ∃ gp, gp = w.heap.size := ⟨_, rfl⟩
  have hp0 : (w.alloc (.cells #[.int .i64 10, .int .i64 10, .int .i64 0] 23)).heap[gp]? = some (.cells #[.int .i64 10, .int .i64 10, .int .i64 0] 23 (0, 0)) := by rw [hgp]; exact heap_alloc_new _ _
  go_enter Try.func8, Try.ntmps8
  go_wp2_with fail
  rw [← hgp]
  clear hgp
  with_reducible refine (HB.out _).mono ?_
  rintro e w1 ⟨rfl, k1⟩
  have K1 := Lib.hid (hk0.tr k1)
  have P1 := Lib.hid (k1.heap hp0 id)
  clear hk0 k1 hp0 HB
  go_wp2_with fail
  obtain ⟨g2, hg2⟩ : ∃ g2, g2 = w1.heap.size := ⟨_, rfl⟩
  have k2 : Kp No w1 (w1.alloc (.cells #[.int .i64 319160, .int .i64 1000000] 35)) := Kp.alloc _ _ _
  have A2 := Lib.hid (show (w1.alloc (.cells #[.int .i64 319160, .int .i64 1000000] 35)).heap[g2]? = some (.cells #[.int .i64 319160, .int .i64 1000000] 35 (0, 0)) by rw [hg2]; exact heap_alloc_new _ _)
  have K2 := Lib.hid (K1.out.tr k2)
  have P2 := Lib.hid (k2.heap P1.out id)
  rw [← hg2]
  clear hg2 k2 K1 P1
  generalize w1.alloc (.cells #[.int .i64 319160, .int .i64 1000000] 35) = w2 at *
  with_reducible refine (HF.out _).mono ?_
  rintro e w3 ⟨rfl, k3⟩
  have K3 := Lib.hid (K2.out.tr k3)
  have P3 := Lib.hid (k3.heap P2.out id)
  have A3 := Lib.hid (k3.heap A2.out id)
  clear k3 K2 P2 A2 HF
  go_wp2_with fail
  obtain ⟨g4, hg4⟩ : ∃ g4, g4 = w3.heap.size := ⟨_, rfl⟩
  have k4 : Kp No w3 (w3.alloc (.cells #[.int .i64 314160, .int .i64 266000] 35)) := Kp.alloc _ _ _
  have F4 := Lib.hid (show (w3.alloc (.cells #[.int .i64 314160, .int .i64 266000] 35)).heap[g4]? = some (.cells #[.int .i64 314160, .int .i64 266000] 35 (0, 0)) by rw [hg4]; exact heap_alloc_new _ _)
  have K4 := Lib.hid (K3.out.tr k4)
  have P4 := Lib.hid (k4.heap P3.out id)
  have A4 := Lib.hid (k4.heap A3.out id)
  rw [← hg4]
  clear hg4 k4 K3 P3 A3
  generalize w3.alloc (.cells #[.int .i64 314160, .int .i64 266000] 35) = w4 at *
  with_reducible refine (HW.out _).mono ?_
  rintro e w5 ⟨rfl, k5⟩
  have K5 := Lib.hid (K4.out.tr k5)
  have P5 := Lib.hid (k5.heap P4.out id)
  have A5 := Lib.hid (k5.heap A4.out id)
  have F5 := Lib.hid (k5.heap F4.out id)
  clear k5 K4 P4 A4 F4 HW
  go_wp2_with fail
  obtain ⟨g6, hg6⟩ : ∃ g6, g6 = w5.heap.size := ⟨_, rfl⟩
  have k6 : Kp No w5 (w5.alloc (.cells #[.int .i64 11340000, .int .i64 11340000] 40)) := Kp.alloc _ _ _
  have W6 := Lib.hid (show (w5.alloc (.cells #[.int .i64 11340000, .int .i64 11340000] 40)).heap[g6]? = some (.cells #[.int .i64 11340000, .int .i64 11340000] 40 (0, 0)) by rw [hg6]; exact heap_alloc_new _ _)
  have K6 := Lib.hid (K5.out.tr k6)
  have P6 := Lib.hid (k6.heap P5.out id)
  have A6 := Lib.hid (k6.heap A5.out id)
  have F6 := Lib.hid (k6.heap F5.out id)
  rw [← hg6]
  clear hg6 k6 K5 P5 A5 F5
  generalize w5.alloc (.cells #[.int .i64 11340000, .int .i64 11340000] 40) = w6 at *
  have q0 : w6.cell? ⟨gp, 0, none⟩ = some (.int .i64 10) := by rw [cell_of_row _ _ _ _ _ _ P6.out]; rfl
  have q1 : w6.cell? ⟨gp, 1, none⟩ = some (.int .i64 10) := by rw [cell_of_row _ _ _ _ _ _ P6.out]; rfl
  have q2 : w6.cell? ⟨gp, 2, none⟩ = some (.int .i64 0) := by rw [cell_of_row _ _ _ _ _ _ P6.out]; rfl
  have up : ∀ (r : Nat → Option Value) (w' : World) (i : Nat) (v : Value), i ≠ 4 → (Kp No w6 w' ∧ ∀ u, r 4 = some u → ∃ gq, u = .slice (some ⟨gq, 0, none⟩) 3 3 ∧ RdC w' (some ⟨gq, 0, none⟩) 3 [⟨5, 8⟩, ⟨5, 8⟩, ⟨5, 8⟩]) → (Kp No w6 w' ∧ ∀ u, (Kq.upd r i v) 4 = some u → ∃ gq, u = .slice (some ⟨gq, 0, none⟩) 3 3 ∧ RdC w' (some ⟨gq, 0, none⟩) 3 [⟨5, 8⟩, ⟨5, 8⟩, ⟨5, 8⟩]) := fun r w' i v h1 h => by
    rw [upd_ne _ _ h1.symm]
    exact h
  have UP := Lib.hid up
  clear up
  have cl : ∀ (r : Nat → Option Value) (w' w'' : World), Kp No w' w'' → (Kp No w6 w' ∧ ∀ u, r 4 = some u → ∃ gq, u = .slice (some ⟨gq, 0, none⟩) 3 3 ∧ RdC w' (some ⟨gq, 0, none⟩) 3 [⟨5, 8⟩, ⟨5, 8⟩, ⟨5, 8⟩]) → (Kp No w6 w'' ∧ ∀ u, r 4 = some u → ∃ gq, u = .slice (some ⟨gq, 0, none⟩) 3 3 ∧ RdC w'' (some ⟨gq, 0, none⟩) 3 [⟨5, 8⟩, ⟨5, 8⟩, ⟨5, 8⟩]) := fun r w' w'' k h => ⟨h.1.tr k, fun u hu => by obtain ⟨gq, h1, h2⟩ := h.2 u hu; exact ⟨gq, h1, h2.no k⟩⟩
  have CL := Lib.hid cl
  clear cl
  refine wp_region_each (fun ix uR => match ix with | 0 => uR = .agg #[.int .i64 10, .int .i64 10, .int .i64 0] | 1 => uR = .agg #[.int .i64 5, .int .i64 8] | 2 => uR = .agg #[.int .i64 5, .int .i64 8] | 3 => uR = .agg #[.int .i64 5, .int .i64 8] | 5 => uR = .tuple #[.int .i64 2, .int .i64 0] | 6 => uR = .tuple #[.int .i64 2, .int .i64 0] | 7 => uR = .int .i64 2 | 8 => uR = .int .i64 0 | 9 => uR = .int .i64 2 | 10 => uR = .int .i64 0 | _ => True) (fun r w' => (Kp No w6 w' ∧ ∀ u, r 4 = some u → ∃ gq, u = .slice (some ⟨gq, 0, none⟩) 3 3 ∧ RdC w' (some ⟨gq, 0, none⟩) 3 [⟨5, 8⟩, ⟨5, 8⟩, ⟨5, 8⟩])) (by kernel_rfl) (by kernel_rfl) (by kernel_rfl) ?_ ?_ ?_
  · exact ⟨Kp.drew _ _, fun u h => (by cases h)⟩
  · refine ⟨?_, ?_, ?_, ?_, ?_, ?_, ?_, ?_, ?_, ?_, ?_, trivial⟩
    · intro r a w' hf hg hW hr hd K hK
      refine wpOp_of rfl rfl ?_
      have e0 : a.tmps.getD 1 undef = .pointer (some ⟨gp, 0, none⟩) := hf.evalFree (by kernel_rfl)
      have z0 := hW.1.cell q0 id
      have z1 := hW.1.cell q1 id
      have z2 := hW.1.cell q2 id
      go_simp
      exact hK _ _ rfl (UP.out r w' 0 _ (by decide) hW)
    · intro r a w' hf hg hW hr hd K hK
      refine wpOp_of rfl rfl ?_
      go_simp
      with_reducible refine (HCU.out 5 8 w').mono ?_
      rintro e w'' ⟨rfl, k'⟩
      exact hK _ _ rfl (UP.out r _ 1 _ (by decide) (CL.out r _ _ k' hW))
    · intro r a w' hf hg hW hr hd K hK
      refine wpOp_of rfl rfl ?_
      go_simp
      with_reducible refine (HCU.out 5 8 w').mono ?_
      rintro e w'' ⟨rfl, k'⟩
      exact hK _ _ rfl (UP.out r _ 2 _ (by decide) (CL.out r _ _ k' hW))
    · intro r a w' hf hg hW hr hd K hK
      refine wpOp_of rfl rfl ?_
      go_simp
      with_reducible refine (HCU.out 5 8 w').mono ?_
      rintro e w'' ⟨rfl, k'⟩
      exact hK _ _ rfl (UP.out r _ 3 _ (by decide) (CL.out r _ _ k' hW))
    · intro r a w' hf hg hW hr hd K hK
      refine wpOp_of rfl rfl ?_
      refine hf.depE hg hd 1 30 (by kernel_rfl) fun u0 e0 g0 h0 => ?_
      replace g0 : u0 = .agg #[.int .i64 5, .int .i64 8] := g0
      subst g0
      have e0' := get_of_getD e0
      refine hf.depE hg hd 2 31 (by kernel_rfl) fun u1 e1 g1 h1 => ?_
      replace g1 : u1 = .agg #[.int .i64 5, .int .i64 8] := g1
      subst g1
      have e1' := get_of_getD e1
      refine hf.depE hg hd 3 32 (by kernel_rfl) fun u2 e2 g2 h2 => ?_
      replace g2 : u2 = .agg #[.int .i64 5, .int .i64 8] := g2
      subst g2
      have e2' := get_of_getD e2
      go_simp
      refine hK _ _ trivial ⟨hW.1.tr (Kp.alloc _ _ _), fun u hu => ?_⟩
      rw [upd_same] at hu
      cases hu
      exact ⟨w'.heap.size, rfl, rdc3 w' ⟨5, 8⟩ ⟨5, 8⟩ ⟨5, 8⟩⟩
    · intro r a w' hf hg hW hr hd K hK
      refine wpOp_of rfl rfl ?_
      refine hf.depE hg hd 0 29 (by kernel_rfl) fun u0 e0 g0 h0 => ?_
      replace g0 : u0 = .agg #[.int .i64 10, .int .i64 10, .int .i64 0] := g0
      subst g0
      refine hf.depE hg hd 4 33 (by kernel_rfl) fun u1 e1 g1 h1 => ?_
      obtain ⟨gq, hq, hri⟩ := hW.2 u1 h1
      subst hq
      have HL := Lib.hid (Least_any exP (some ⟨gq, 0, none⟩) 3 3 _ w' hri (by omega))
      rw [ex_lst] at HL
      simp only [exP, Pt.val] at HL
      go_simp
      with_reducible refine (HL.out).mono ?_
      rintro e w'' ⟨rfl, k'⟩
      exact hK _ _ rfl (UP.out r _ 5 _ (by decide) (CL.out r _ _ k' hW))
    · intro r a w' hf hg hW hr hd K hK
      refine wpOp_of rfl rfl ?_
      refine hf.depE hg hd 5 34 (by kernel_rfl) fun u0 e0 g0 h0 => ?_
      replace g0 : u0 = .tuple #[.int .i64 2, .int .i64 0] := g0
      subst g0
      go_simp
      exact hK _ _ rfl (UP.out r w' 6 _ (by decide) hW)
    · intro r a w' hf hg hW hr hd K hK
      refine wpOp_of rfl rfl ?_
      refine hf.depE hg hd 6 28 (by kernel_rfl) fun u0 e0 g0 h0 => ?_
      replace g0 : u0 = .tuple #[.int .i64 2, .int .i64 0] := g0
      subst g0
      go_simp
      exact hK _ _ rfl (UP.out r w' 7 _ (by decide) hW)
    · intro r a w' hf hg hW hr hd K hK
      refine wpOp_of rfl rfl ?_
      refine hf.depE hg hd 6 28 (by kernel_rfl) fun u0 e0 g0 h0 => ?_
      replace g0 : u0 = .tuple #[.int .i64 2, .int .i64 0] := g0
      subst g0
      go_simp
      exact hK _ _ rfl (UP.out r w' 8 _ (by decide) hW)
    · intro r a w' hf hg hW hr hd K hK
      refine wpOp_of rfl rfl ?_
      refine hf.depE hg hd 7 35 (by kernel_rfl) fun u0 e0 g0 h0 => ?_
      replace g0 : u0 = .int .i64 2 := g0
      subst g0
      go_simp
      exact hK _ _ rfl (UP.out r w' 9 _ (by decide) hW)
    · intro r a w' hf hg hW hr hd K hK
      refine wpOp_of rfl rfl ?_
      refine hf.depE hg hd 8 36 (by kernel_rfl) fun u0 e0 g0 h0 => ?_
      replace g0 : u0 = .int .i64 0 := g0
      subst g0
      go_simp
      exact hK _ _ rfl (UP.out r w' 10 _ (by decide) hW)
  intro r' w7 hg hW hr'
  obtain ⟨q9, hq9⟩ : ∃ u, r' 9 = some u := Option.ne_none_iff_exists'.1 (hr' 9 (by decide))
  obtain ⟨q10, hq10⟩ : ∃ u, r' 10 = some u := Option.ne_none_iff_exists'.1 (hr' 10 (by decide))
  have hv9 : q9 = .int .i64 2 := hg 9 q9 hq9
  subst hv9
  have hv10 : q10 = .int .i64 0 := hg 10 q10 hq10
  subst hv10
  simp only [List.length_cons, List.length_nil, Nat.reduceAdd, List.range_succ, List.range_zero, List.nil_append, List.cons_append, List.map_cons, List.map_nil, putAll, Act.put, List.setIfInBounds_toArray, List.set_cons_succ, List.set_cons_zero, hq9, hq10, Option.getD_some]
  have k7 := hW.1
  have K7 := Lib.hid (K6.out.tr k7)
  have P7 := Lib.hid (k7.heap P6.out id)
  have A7 := Lib.hid (k7.heap A6.out id)
  have F7 := Lib.hid (k7.heap F6.out id)
  have W7 := Lib.hid (k7.heap W6.out id)
  clear hg hW hr' k7 q0 q1 q2 K6 P6 A6 F6 W6
  go_wp2_with fail
  with_reducible refine (HCU.out _ _ _).mono ?_
  rintro e w8 ⟨rfl, k8⟩
  go_wp2_with fail
  with_reducible refine (HCU.out _ _ _).mono ?_
  rintro e w9 ⟨rfl, k9⟩
  go_wp2_with fail
  with_reducible refine (HCU.out _ _ _).mono ?_
  rintro e wa ⟨rfl, ka⟩
  have kk := (k8.tr k9).tr ka
  have hkb : Kp No wa (wa.alloc (.cells #[.int .i64 4, .int .i64 4, .int .i64 9, .int .i64 5, .int .i64 5, .int .i64 3] 35)) := Kp.alloc _ _ _
  have hrl := rdc3 wa ⟨4, 4⟩ ⟨9, 5⟩ ⟨5, 3⟩
  have hgl : wa.heap.size < (wa.alloc (.cells #[.int .i64 4, .int .i64 4, .int .i64 9, .int .i64 5, .int .i64 5, .int .i64 3] 35)).heap.size := by simp
  obtain ⟨wb, hwb⟩ : ∃ wb, wa.alloc (.cells #[.int .i64 4, .int .i64 4, .int .i64 9, .int .i64 5, .int .i64 5, .int .i64 3] 35) = wb := ⟨_, rfl⟩
  obtain ⟨gl, hgl2⟩ : ∃ gl, wa.heap.size = gl := ⟨_, rfl⟩
  simp only at hrl
  rw [hwb] at hkb hrl hgl
  rw [hgl2] at hrl hgl
  have kb := kk.tr hkb
  have Kb := Lib.hid (K7.out.tr kb)
  have Pb := Lib.hid (kb.heap P7.out id)
  have Ab := Lib.hid (kb.heap A7.out id)
  have Fb := Lib.hid (kb.heap F7.out id)
  have Wb := Lib.hid (kb.heap W7.out id)
  have RL := Lib.hid (show RdC wb (some ⟨gl, 0, none⟩) 3 exL from hrl)
  have HGL := Lib.hid hgl
  have q0 : wb.cell? ⟨gp, 0, none⟩ = some (.int .i64 10) := by rw [cell_of_row _ _ _ _ _ _ Pb.out]; rfl
  have q1 : wb.cell? ⟨gp, 1, none⟩ = some (.int .i64 10) := by rw [cell_of_row _ _ _ _ _ _ Pb.out]; rfl
  have q2 : wb.cell? ⟨gp, 2, none⟩ = some (.int .i64 0) := by rw [cell_of_row _ _ _ _ _ _ Pb.out]; rfl
  have HN := Lib.hid (Nest_any exP (some ⟨gl, 0, none⟩) 3 3 exL wb RL.out (by omega) (fun b o e => by cases e; exact HGL.out))
  rw [ex_nesE, ex_nesL] at HN
  simp only [exP, Pt.val] at HN
  clear k8 k9 ka kk hkb hrl hgl kb K7 P7 A7 F7 W7
  go_wp2_with fail
  clear q0 q1 q2 hwb hgl2
  with_reducible refine HN.out.mono ?_
  rintro e wc ⟨an, mn, cn, rfl, hrn, hmn, kc⟩
  have Kc := Lib.hid (Kb.out.tr kc)
  have Pc := Lib.hid (kc.heap Pb.out id)
  have Ac := Lib.hid (kc.heap Ab.out id)
  have Fc := Lib.hid (kc.heap Fb.out id)
  have Wc := Lib.hid (kc.heap Wb.out id)
  have RN := Lib.hid hrn
  have hmn3 : mn = 3 := hrn.1.symm
  subst hmn3
  have q0 : wc.cell? ⟨gp, 0, none⟩ = some (.int .i64 10) := by rw [cell_of_row _ _ _ _ _ _ Pc.out]; rfl
  have q1 : wc.cell? ⟨gp, 1, none⟩ = some (.int .i64 10) := by rw [cell_of_row _ _ _ _ _ _ Pc.out]; rfl
  have q2 : wc.cell? ⟨gp, 2, none⟩ = some (.int .i64 0) := by rw [cell_of_row _ _ _ _ _ _ Pc.out]; rfl
  have HQ := Lib.hid (Quick_few exP (some ⟨gl, 0, none⟩) 3 3 exL wc (RL.out.no kc) (by omega) (fun b o e => by cases e; exact Nat.lt_of_lt_of_le HGL.out kc.size) ex_chk ex_big)
  rw [ex_quick] at HQ
  simp only [exP, Pt.val] at HQ
  clear kc hrn hmn HN Kb Pb Ab Fb Wb RL HGL
  go_wp2_with fail
  clear q0 q1 q2
  with_reducible refine HQ.out.mono ?_
  rintro e wd ⟨gq, rfl, hrq, kd⟩
  have Kd := Lib.hid (Kc.out.tr kd)
  have Ad := Lib.hid (kd.heap Ac.out id)
  have Fd := Lib.hid (kd.heap Fc.out id)
  have Wd := Lib.hid (kd.heap Wc.out id)
  have RQ := Lib.hid hrq
  replace RN := Lib.hid (RN.out.no kd)
  clear kd hrq HQ Kc Pc Ac Fc Wc
  go_wp2_with fail
  have a0 : wd.cell? ⟨g2, 0, none⟩ = some (.int .i64 319160) := by rw [cell_of_row _ _ _ _ _ _ Ad.out]; rfl
  have a1 : wd.cell? ⟨g2, 1, none⟩ = some (.int .i64 1000000) := by rw [cell_of_row _ _ _ _ _ _ Ad.out]; rfl
  have f0 : wd.cell? ⟨g4, 0, none⟩ = some (.int .i64 314160) := by rw [cell_of_row _ _ _ _ _ _ Fd.out]; rfl
  have f1 : wd.cell? ⟨g4, 1, none⟩ = some (.int .i64 266000) := by rw [cell_of_row _ _ _ _ _ _ Fd.out]; rfl
  have v0 : wd.cell? ⟨g6, 0, none⟩ = some (.int .i64 11340000) := by rw [cell_of_row _ _ _ _ _ _ Wd.out]; rfl
  have v1 : wd.cell? ⟨g6, 1, none⟩ = some (.int .i64 11340000) := by rw [cell_of_row _ _ _ _ _ _ Wd.out]; rfl
  have ce1 := fun w' => ct_equal w' 319160 1000000 319160 1000000
  have ce2 := fun w' => ct_equal w' 314160 266000 314160 266000
  have ce3 := fun w' => iv_equal w' 11340000 11340000 11340000 11340000
  have FS : Stab (fun ix wz u => (ix = 22 → SpF [⟨0, 0, 0, 0⟩, ⟨0, 1, 0, 4⟩, ⟨0, 0, 4, 0⟩] wz u) ∧ (ix = 30 → SpF [⟨0, 1, 0, 5⟩, ⟨0, 0, 0, 0⟩, ⟨0, 1, 4, 5⟩] wz u) ∧ True) := fun ix u wz wz' kz h => ⟨fun e => SpF.no (h.1 e) kz, fun e => SpF.no (h.2.1 e) kz, trivial⟩
  replace FS := Lib.hid FS
  refine wp_region_each (fun ix uR => match ix with | 0 => uR = .agg #[.int .i64 319160, .int .i64 1000000] | 1 => uR = .agg #[.int .i64 319160, .int .i64 1000000] | 2 => uR = .bool true | 3 => uR = .bool true | 4 => uR = .agg #[.int .i64 314160, .int .i64 266000] | 5 => uR = .agg #[.int .i64 314160, .int .i64 266000] | 6 => uR = .bool true | 7 => uR = .bool true | 8 => uR = .bool true | 9 => uR = .agg #[.int .i64 11340000, .int .i64 11340000] | 10 => uR = .agg #[.int .i64 11340000, .int .i64 11340000] | 11 => uR = .bool true | 12 => uR = .bool true | 13 => uR = .bool true | 14 => uR = .int .i64 2 | 15 => uR = .bool true | 16 => uR = .bool true | 17 => uR = .bool true | 18 => uR = .slice an 3 cn | 19 => uR = .agg #[.int .i64 0, .int .i64 0, .int .i64 0, .int .i64 0] | 20 => uR = .agg #[.int .i64 0, .int .i64 1, .int .i64 0, .int .i64 4] | 21 => uR = .agg #[.int .i64 0, .int .i64 0, .int .i64 4, .int .i64 0] | 23 => uR = .bool true | 24 => uR = .bool true | 25 => uR = .bool true | 26 => uR = .slice (some ⟨gq, 0, none⟩) 3 3 | 27 => uR = .agg #[.int .i64 0, .int .i64 1, .int .i64 0, .int .i64 5] | 28 => uR = .agg #[.int .i64 0, .int .i64 0, .int .i64 0, .int .i64 0] | 29 => uR = .agg #[.int .i64 0, .int .i64 1, .int .i64 4, .int .i64 5] | 31 => uR = .bool true | 32 => uR = .bool true | 33 => uR = .bool true | _ => True) (HvW wd (fun ix wz u => (ix = 22 → SpF [⟨0, 0, 0, 0⟩, ⟨0, 1, 0, 4⟩, ⟨0, 0, 4, 0⟩] wz u) ∧ (ix = 30 → SpF [⟨0, 1, 0, 5⟩, ⟨0, 0, 0, 0⟩, ⟨0, 1, 4, 5⟩] wz u) ∧ True)) (by kernel_rfl) (by kernel_rfl) (by kernel_rfl) ?_ ?_ ?_
  · exact HvW.start _ _
  · refine ⟨?_, ?_, ?_, ?_, ?_, ?_, ?_, ?_, ?_, ?_, ?_, ?_, ?_, ?_, ?_, ?_, ?_, ?_, ?_, ?_, ?_, ?_, ?_, ?_, ?_, ?_, ?_, ?_, ?_, ?_, ?_, ?_, ?_, ?_, trivial⟩
    · intro r a w' hf hg hW hr hd K hK
      refine wpOp_of rfl rfl ?_
      have e0 : a.tmps.getD 2 undef = .pointer (some ⟨g2, 0, none⟩) := hf.evalFree (by kernel_rfl)
      have z0 := hW.kp.cell a0 id
      have z1 := hW.kp.cell a1 id
      go_simp
      exact hK _ _ rfl (hW.upd 0 _ ⟨fun e => absurd e (by decide), fun e => absurd e (by decide), trivial⟩)
    · intro r a w' hf hg hW hr hd K hK
      refine wpOp_of rfl rfl ?_
      go_simp
      with_reducible refine (HCU.out 319160 1000000 w').mono ?_
      rintro e w'' ⟨rfl, k'⟩
      exact hK _ _ rfl ((hW.call FS.out k').upd 1 _ ⟨fun e => absurd e (by decide), fun e => absurd e (by decide), trivial⟩)
    · intro r a w' hf hg hW hr hd K hK
      refine wpOp_of rfl rfl ?_
      refine hf.depE hg hd 0 75 (by kernel_rfl) fun u0 e0 g0 h0 => ?_
      replace g0 : u0 = .agg #[.int .i64 319160, .int .i64 1000000] := g0
      subst g0
      refine hf.depE hg hd 1 76 (by kernel_rfl) fun u1 e1 g1 h1 => ?_
      replace g1 : u1 = .agg #[.int .i64 319160, .int .i64 1000000] := g1
      subst g1
      go_simp
      exact hK _ _ rfl (hW.upd 2 _ ⟨fun e => absurd e (by decide), fun e => absurd e (by decide), trivial⟩)
    · intro r a w' hf hg hW hr hd K hK
      refine wpOp_of rfl rfl ?_
      refine hf.depE hg hd 2 77 (by kernel_rfl) fun u0 e0 g0 h0 => ?_
      replace g0 : u0 = .bool true := g0
      subst g0
      go_simp
      exact hK _ _ rfl (hW.upd 3 _ ⟨fun e => absurd e (by decide), fun e => absurd e (by decide), trivial⟩)
    · intro r a w' hf hg hW hr hd K hK
      refine hf.depE hg hd 3 78 (by kernel_rfl) fun uG eG gG _ => ?_
      replace gG : uG = .bool true := gG
      subst gG
      refine wpOp_run rfl rfl rfl rfl eG ?_
      have e0 : a.tmps.getD 4 undef = .pointer (some ⟨g4, 0, none⟩) := hf.evalFree (by kernel_rfl)
      have z0 := hW.kp.cell f0 id
      have z1 := hW.kp.cell f1 id
      go_simp
      exact hK _ _ rfl (hW.upd 4 _ ⟨fun e => absurd e (by decide), fun e => absurd e (by decide), trivial⟩)
    · intro r a w' hf hg hW hr hd K hK
      refine hf.depE hg hd 3 78 (by kernel_rfl) fun uG eG gG _ => ?_
      replace gG : uG = .bool true := gG
      subst gG
      refine wpOp_run rfl rfl rfl rfl eG ?_
      go_simp
      with_reducible refine (HCU.out 314160 266000 w').mono ?_
      rintro e w'' ⟨rfl, k'⟩
      exact hK _ _ rfl ((hW.call FS.out k').upd 5 _ ⟨fun e => absurd e (by decide), fun e => absurd e (by decide), trivial⟩)
    · intro r a w' hf hg hW hr hd K hK
      refine hf.depE hg hd 3 78 (by kernel_rfl) fun uG eG gG _ => ?_
      replace gG : uG = .bool true := gG
      subst gG
      refine wpOp_run rfl rfl rfl rfl eG ?_
      refine hf.depE hg hd 4 79 (by kernel_rfl) fun u0 e0 g0 h0 => ?_
      replace g0 : u0 = .agg #[.int .i64 314160, .int .i64 266000] := g0
      subst g0
      refine hf.depE hg hd 5 80 (by kernel_rfl) fun u1 e1 g1 h1 => ?_
      replace g1 : u1 = .agg #[.int .i64 314160, .int .i64 266000] := g1
      subst g1
      go_simp
      exact hK _ _ rfl (hW.upd 6 _ ⟨fun e => absurd e (by decide), fun e => absurd e (by decide), trivial⟩)
    · intro r a w' hf hg hW hr hd K hK
      refine wpOp_of rfl rfl ?_
      refine hf.depE hg hd 3 78 (by kernel_rfl) fun u0 e0 g0 h0 => ?_
      replace g0 : u0 = .bool true := g0
      subst g0
      have e0' := get_of_getD e0
      refine hf.depE hg hd 6 81 (by kernel_rfl) fun u1 e1 g1 h1 => ?_
      replace g1 : u1 = .bool true := g1
      subst g1
      have e1' := get_of_getD e1
      go_simp
      exact hK _ _ rfl (hW.upd 7 _ ⟨fun e => absurd e (by decide), fun e => absurd e (by decide), trivial⟩)
    · intro r a w' hf hg hW hr hd K hK
      refine wpOp_of rfl rfl ?_
      refine hf.depE hg hd 7 82 (by kernel_rfl) fun u0 e0 g0 h0 => ?_
      replace g0 : u0 = .bool true := g0
      subst g0
      go_simp
      exact hK _ _ rfl (hW.upd 8 _ ⟨fun e => absurd e (by decide), fun e => absurd e (by decide), trivial⟩)
    · intro r a w' hf hg hW hr hd K hK
      refine hf.depE hg hd 8 83 (by kernel_rfl) fun uG eG gG _ => ?_
      replace gG : uG = .bool true := gG
      subst gG
      refine wpOp_run rfl rfl rfl rfl eG ?_
      have e0 : a.tmps.getD 6 undef = .pointer (some ⟨g6, 0, none⟩) := hf.evalFree (by kernel_rfl)
      have z0 := hW.kp.cell v0 id
      have z1 := hW.kp.cell v1 id
      go_simp
      exact hK _ _ rfl (hW.upd 9 _ ⟨fun e => absurd e (by decide), fun e => absurd e (by decide), trivial⟩)
    · intro r a w' hf hg hW hr hd K hK
      refine hf.depE hg hd 8 83 (by kernel_rfl) fun uG eG gG _ => ?_
      replace gG : uG = .bool true := gG
      subst gG
      refine wpOp_run rfl rfl rfl rfl eG ?_
      go_simp
      exact hK _ _ rfl (hW.upd 10 _ ⟨fun e => absurd e (by decide), fun e => absurd e (by decide), trivial⟩)
    · intro r a w' hf hg hW hr hd K hK
      refine hf.depE hg hd 8 83 (by kernel_rfl) fun uG eG gG _ => ?_
      replace gG : uG = .bool true := gG
      subst gG
      refine wpOp_run rfl rfl rfl rfl eG ?_
      refine hf.depE hg hd 9 84 (by kernel_rfl) fun u0 e0 g0 h0 => ?_
      replace g0 : u0 = .agg #[.int .i64 11340000, .int .i64 11340000] := g0
      subst g0
      refine hf.depE hg hd 10 85 (by kernel_rfl) fun u1 e1 g1 h1 => ?_
      replace g1 : u1 = .agg #[.int .i64 11340000, .int .i64 11340000] := g1
      subst g1
      go_simp
      exact hK _ _ rfl (hW.upd 11 _ ⟨fun e => absurd e (by decide), fun e => absurd e (by decide), trivial⟩)
    · intro r a w' hf hg hW hr hd K hK
      refine wpOp_of rfl rfl ?_
      refine hf.depE hg hd 8 83 (by kernel_rfl) fun u0 e0 g0 h0 => ?_
      replace g0 : u0 = .bool true := g0
      subst g0
      have e0' := get_of_getD e0
      refine hf.depE hg hd 11 86 (by kernel_rfl) fun u1 e1 g1 h1 => ?_
      replace g1 : u1 = .bool true := g1
      subst g1
      have e1' := get_of_getD e1
      go_simp
      exact hK _ _ rfl (hW.upd 12 _ ⟨fun e => absurd e (by decide), fun e => absurd e (by decide), trivial⟩)
    · intro r a w' hf hg hW hr hd K hK
      refine wpOp_of rfl rfl ?_
      refine hf.depE hg hd 12 87 (by kernel_rfl) fun u0 e0 g0 h0 => ?_
      replace g0 : u0 = .bool true := g0
      subst g0
      go_simp
      exact hK _ _ rfl (hW.upd 13 _ ⟨fun e => absurd e (by decide), fun e => absurd e (by decide), trivial⟩)
    · intro r a w' hf hg hW hr hd K hK
      refine hf.depE hg hd 13 88 (by kernel_rfl) fun uG eG gG _ => ?_
      replace gG : uG = .bool true := gG
      subst gG
      refine wpOp_run rfl rfl rfl rfl eG ?_
      have e0 : a.tmps.getD 8 undef = .int .i64 2 := hf.evalFree (by kernel_rfl)
      go_simp
      exact hK _ _ rfl (hW.upd 14 _ ⟨fun e => absurd e (by decide), fun e => absurd e (by decide), trivial⟩)
    · intro r a w' hf hg hW hr hd K hK
      refine hf.depE hg hd 13 88 (by kernel_rfl) fun uG eG gG _ => ?_
      replace gG : uG = .bool true := gG
      subst gG
      refine wpOp_run rfl rfl rfl rfl eG ?_
      refine hf.depE hg hd 14 89 (by kernel_rfl) fun u0 e0 g0 h0 => ?_
      replace g0 : u0 = .int .i64 2 := g0
      subst g0
      go_simp
      exact hK _ _ rfl (hW.upd 15 _ ⟨fun e => absurd e (by decide), fun e => absurd e (by decide), trivial⟩)
    · intro r a w' hf hg hW hr hd K hK
      refine wpOp_of rfl rfl ?_
      refine hf.depE hg hd 13 88 (by kernel_rfl) fun u0 e0 g0 h0 => ?_
      replace g0 : u0 = .bool true := g0
      subst g0
      have e0' := get_of_getD e0
      refine hf.depE hg hd 15 90 (by kernel_rfl) fun u1 e1 g1 h1 => ?_
      replace g1 : u1 = .bool true := g1
      subst g1
      have e1' := get_of_getD e1
      go_simp
      exact hK _ _ rfl (hW.upd 16 _ ⟨fun e => absurd e (by decide), fun e => absurd e (by decide), trivial⟩)
    · intro r a w' hf hg hW hr hd K hK
      refine wpOp_of rfl rfl ?_
      refine hf.depE hg hd 16 91 (by kernel_rfl) fun u0 e0 g0 h0 => ?_
      replace g0 : u0 = .bool true := g0
      subst g0
      go_simp
      exact hK _ _ rfl (hW.upd 17 _ ⟨fun e => absurd e (by decide), fun e => absurd e (by decide), trivial⟩)
    · intro r a w' hf hg hW hr hd K hK
      refine hf.depE hg hd 17 92 (by kernel_rfl) fun uG eG gG _ => ?_
      replace gG : uG = .bool true := gG
      subst gG
      refine wpOp_run rfl rfl rfl rfl eG ?_
      have e0 : a.tmps.getD 11 undef = .slice an 3 cn := hf.evalFree (by kernel_rfl)
      go_simp
      exact hK _ _ rfl (hW.upd 18 _ ⟨fun e => absurd e (by decide), fun e => absurd e (by decide), trivial⟩)
    · intro r a w' hf hg hW hr hd K hK
      refine hf.depE hg hd 17 92 (by kernel_rfl) fun uG eG gG _ => ?_
      replace gG : uG = .bool true := gG
      subst gG
      refine wpOp_run rfl rfl rfl rfl eG ?_
      go_simp
      with_reducible refine (HSP.out 0 0 0 0 w').mono ?_
      rintro e w'' ⟨rfl, k'⟩
      exact hK _ _ rfl ((hW.call FS.out k').upd 19 _ ⟨fun e => absurd e (by decide), fun e => absurd e (by decide), trivial⟩)
    · intro r a w' hf hg hW hr hd K hK
      refine hf.depE hg hd 17 92 (by kernel_rfl) fun uG eG gG _ => ?_
      replace gG : uG = .bool true := gG
      subst gG
      refine wpOp_run rfl rfl rfl rfl eG ?_
      go_simp
      with_reducible refine (HSP.out 0 1 0 4 w').mono ?_
      rintro e w'' ⟨rfl, k'⟩
      exact hK _ _ rfl ((hW.call FS.out k').upd 20 _ ⟨fun e => absurd e (by decide), fun e => absurd e (by decide), trivial⟩)
    · intro r a w' hf hg hW hr hd K hK
      refine hf.depE hg hd 17 92 (by kernel_rfl) fun uG eG gG _ => ?_
      replace gG : uG = .bool true := gG
      subst gG
      refine wpOp_run rfl rfl rfl rfl eG ?_
      go_simp
      with_reducible refine (HSP.out 0 0 4 0 w').mono ?_
      rintro e w'' ⟨rfl, k'⟩
      exact hK _ _ rfl ((hW.call FS.out k').upd 21 _ ⟨fun e => absurd e (by decide), fun e => absurd e (by decide), trivial⟩)
    · intro r a w' hf hg hW hr hd K hK
      refine hf.depE hg hd 17 92 (by kernel_rfl) fun uG eG gG _ => ?_
      replace gG : uG = .bool true := gG
      subst gG
      refine wpOp_run rfl rfl rfl rfl eG ?_
      refine hf.depE hg hd 19 94 (by kernel_rfl) fun u0 e0 g0 h0 => ?_
      replace g0 : u0 = .agg #[.int .i64 0, .int .i64 0, .int .i64 0, .int .i64 0] := g0
      subst g0
      have e0' := get_of_getD e0
      refine hf.depE hg hd 20 95 (by kernel_rfl) fun u1 e1 g1 h1 => ?_
      replace g1 : u1 = .agg #[.int .i64 0, .int .i64 1, .int .i64 0, .int .i64 4] := g1
      subst g1
      have e1' := get_of_getD e1
      refine hf.depE hg hd 21 96 (by kernel_rfl) fun u2 e2 g2 h2 => ?_
      replace g2 : u2 = .agg #[.int .i64 0, .int .i64 0, .int .i64 4, .int .i64 0] := g2
      subst g2
      have e2' := get_of_getD e2
      go_simp
      exact hK _ _ trivial ((hW.call FS.out (Kp.alloc _ _ _)).upd 22 _ ⟨fun _ => (rds3 w' ⟨0, 0, 0, 0⟩ ⟨0, 1, 0, 4⟩ ⟨0, 0, 4, 0⟩), fun e => absurd e (by decide), trivial⟩)
    · intro r a w' hf hg hW hr hd K hK
      refine hf.depE hg hd 17 92 (by kernel_rfl) fun uG eG gG _ => ?_
      replace gG : uG = .bool true := gG
      subst gG
      refine wpOp_run rfl rfl rfl rfl eG ?_
      refine hf.depE hg hd 18 93 (by kernel_rfl) fun u0 e0 g0 h0 => ?_
      replace g0 : u0 = .slice an 3 cn := g0
      subst g0
      refine hf.depE hg hd 22 97 (by kernel_rfl) fun u1 e1 g1 h1 => ?_
      have f1 := (hW.hv 22 u1 h1).1 rfl
      obtain ⟨gz, hgz, hrz⟩ := f1
      subst hgz
      have HS := Lib.hid (same_any an 3 cn _ (some ⟨gz, 0, none⟩) 3 3 _ w' (RN.out.no hW.kp) hrz (by omega))
      simp only [decide_true] at HS
      go_simp
      with_reducible refine (HS.out).mono ?_
      rintro e w'' ⟨rfl, k'⟩
      exact hK _ _ rfl ((hW.call FS.out k').upd 23 _ ⟨fun e => absurd e (by decide), fun e => absurd e (by decide), trivial⟩)
    · intro r a w' hf hg hW hr hd K hK
      refine wpOp_of rfl rfl ?_
      refine hf.depE hg hd 17 92 (by kernel_rfl) fun u0 e0 g0 h0 => ?_
      replace g0 : u0 = .bool true := g0
      subst g0
      have e0' := get_of_getD e0
      refine hf.depE hg hd 23 98 (by kernel_rfl) fun u1 e1 g1 h1 => ?_
      replace g1 : u1 = .bool true := g1
      subst g1
      have e1' := get_of_getD e1
      go_simp
      exact hK _ _ rfl (hW.upd 24 _ ⟨fun e => absurd e (by decide), fun e => absurd e (by decide), trivial⟩)
    · intro r a w' hf hg hW hr hd K hK
      refine wpOp_of rfl rfl ?_
      refine hf.depE hg hd 24 99 (by kernel_rfl) fun u0 e0 g0 h0 => ?_
      replace g0 : u0 = .bool true := g0
      subst g0
      go_simp
      exact hK _ _ rfl (hW.upd 25 _ ⟨fun e => absurd e (by decide), fun e => absurd e (by decide), trivial⟩)
    · intro r a w' hf hg hW hr hd K hK
      refine hf.depE hg hd 25 100 (by kernel_rfl) fun uG eG gG _ => ?_
      replace gG : uG = .bool true := gG
      subst gG
      refine wpOp_run rfl rfl rfl rfl eG ?_
      have e0 : a.tmps.getD 13 undef = .slice (some ⟨gq, 0, none⟩) 3 3 := hf.evalFree (by kernel_rfl)
      go_simp
      exact hK _ _ rfl (hW.upd 26 _ ⟨fun e => absurd e (by decide), fun e => absurd e (by decide), trivial⟩)
    · intro r a w' hf hg hW hr hd K hK
      refine hf.depE hg hd 25 100 (by kernel_rfl) fun uG eG gG _ => ?_
      replace gG : uG = .bool true := gG
      subst gG
      refine wpOp_run rfl rfl rfl rfl eG ?_
      go_simp
      with_reducible refine (HSP.out 0 1 0 5 w').mono ?_
      rintro e w'' ⟨rfl, k'⟩
      exact hK _ _ rfl ((hW.call FS.out k').upd 27 _ ⟨fun e => absurd e (by decide), fun e => absurd e (by decide), trivial⟩)
    · intro r a w' hf hg hW hr hd K hK
      refine hf.depE hg hd 25 100 (by kernel_rfl) fun uG eG gG _ => ?_
      replace gG : uG = .bool true := gG
      subst gG
      refine wpOp_run rfl rfl rfl rfl eG ?_
      go_simp
      with_reducible refine (HSP.out 0 0 0 0 w').mono ?_
      rintro e w'' ⟨rfl, k'⟩
      exact hK _ _ rfl ((hW.call FS.out k').upd 28 _ ⟨fun e => absurd e (by decide), fun e => absurd e (by decide), trivial⟩)
    · intro r a w' hf hg hW hr hd K hK
      refine hf.depE hg hd 25 100 (by kernel_rfl) fun uG eG gG _ => ?_
      replace gG : uG = .bool true := gG
      subst gG
      refine wpOp_run rfl rfl rfl rfl eG ?_
      go_simp
      with_reducible refine (HSP.out 0 1 4 5 w').mono ?_
      rintro e w'' ⟨rfl, k'⟩
      exact hK _ _ rfl ((hW.call FS.out k').upd 29 _ ⟨fun e => absurd e (by decide), fun e => absurd e (by decide), trivial⟩)
    · intro r a w' hf hg hW hr hd K hK
      refine hf.depE hg hd 25 100 (by kernel_rfl) fun uG eG gG _ => ?_
      replace gG : uG = .bool true := gG
      subst gG
      refine wpOp_run rfl rfl rfl rfl eG ?_
      refine hf.depE hg hd 27 102 (by kernel_rfl) fun u0 e0 g0 h0 => ?_
      replace g0 : u0 = .agg #[.int .i64 0, .int .i64 1, .int .i64 0, .int .i64 5] := g0
      subst g0
      have e0' := get_of_getD e0
      refine hf.depE hg hd 28 103 (by kernel_rfl) fun u1 e1 g1 h1 => ?_
      replace g1 : u1 = .agg #[.int .i64 0, .int .i64 0, .int .i64 0, .int .i64 0] := g1
      subst g1
      have e1' := get_of_getD e1
      refine hf.depE hg hd 29 104 (by kernel_rfl) fun u2 e2 g2 h2 => ?_
      replace g2 : u2 = .agg #[.int .i64 0, .int .i64 1, .int .i64 4, .int .i64 5] := g2
      subst g2
      have e2' := get_of_getD e2
      go_simp
      exact hK _ _ trivial ((hW.call FS.out (Kp.alloc _ _ _)).upd 30 _ ⟨fun e => absurd e (by decide), fun _ => (rds3 w' ⟨0, 1, 0, 5⟩ ⟨0, 0, 0, 0⟩ ⟨0, 1, 4, 5⟩), trivial⟩)
    · intro r a w' hf hg hW hr hd K hK
      refine hf.depE hg hd 25 100 (by kernel_rfl) fun uG eG gG _ => ?_
      replace gG : uG = .bool true := gG
      subst gG
      refine wpOp_run rfl rfl rfl rfl eG ?_
      refine hf.depE hg hd 26 101 (by kernel_rfl) fun u0 e0 g0 h0 => ?_
      replace g0 : u0 = .slice (some ⟨gq, 0, none⟩) 3 3 := g0
      subst g0
      refine hf.depE hg hd 30 105 (by kernel_rfl) fun u1 e1 g1 h1 => ?_
      have f1 := (hW.hv 30 u1 h1).2.1 rfl
      obtain ⟨gz, hgz, hrz⟩ := f1
      subst hgz
      have HS := Lib.hid (same_any (some ⟨gq, 0, none⟩) 3 3 _ (some ⟨gz, 0, none⟩) 3 3 _ w' (RQ.out.no hW.kp) hrz (by omega))
      simp only [decide_true] at HS
      go_simp
      with_reducible refine (HS.out).mono ?_
      rintro e w'' ⟨rfl, k'⟩
      exact hK _ _ rfl ((hW.call FS.out k').upd 31 _ ⟨fun e => absurd e (by decide), fun e => absurd e (by decide), trivial⟩)
    · intro r a w' hf hg hW hr hd K hK
      refine wpOp_of rfl rfl ?_
      refine hf.depE hg hd 25 100 (by kernel_rfl) fun u0 e0 g0 h0 => ?_
      replace g0 : u0 = .bool true := g0
      subst g0
      have e0' := get_of_getD e0
      refine hf.depE hg hd 31 106 (by kernel_rfl) fun u1 e1 g1 h1 => ?_
      replace g1 : u1 = .bool true := g1
      subst g1
      have e1' := get_of_getD e1
      go_simp
      exact hK _ _ rfl (hW.upd 32 _ ⟨fun e => absurd e (by decide), fun e => absurd e (by decide), trivial⟩)
    · intro r a w' hf hg hW hr hd K hK
      refine wpOp_of rfl rfl ?_
      refine hf.depE hg hd 32 107 (by kernel_rfl) fun u0 e0 g0 h0 => ?_
      replace g0 : u0 = .bool true := g0
      subst g0
      go_simp
      exact hK _ _ rfl (hW.upd 33 _ ⟨fun e => absurd e (by decide), fun e => absurd e (by decide), trivial⟩)
  intro r' we hg hW hr'
  have hkN := hW.kp
  obtain ⟨q33, hq33⟩ : ∃ u, r' 33 = some u := Option.ne_none_iff_exists'.1 (hr' 33 (by decide))
  have hk33 := hg 33 q33 hq33
  replace hk33 : q33 = .bool true := hk33
  subst hk33
  simp only [List.length_cons, List.length_nil, Nat.reduceAdd, List.range_succ, List.range_zero, List.nil_append, List.cons_append, List.map_cons, List.map_nil, putAll, Act.put, List.setIfInBounds_toArray, List.set_cons_succ, List.set_cons_zero, hq33, Option.getD_some]
  clear hg hW hr' FS hq33
  have Ke := Lib.hid (Kd.out.tr hkN)
  clear hkN
  go_wp2_with fail
  go_ret
  exact ⟨rfl, Ke.out⟩
end Go.Proofs.Ytamjhpdgclbfgaa
