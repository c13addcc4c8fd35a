/- Chapter 15: the law's less. Printed by gen_les.py SEAT NUMBER-OF-less. -/
import Derived.Test.YtpkbpeeelpgmcaaXCoAM
namespace Go.Proofs.Ytpkbpeeelpgmcaa
open Go.RowKit Go.Kq Go.Flow

theorem RdI.part {k : IntKind} {w : World} {A : Option Addr} {n : Nat} {xs : List Int} (h : RdI k w A n xs) (i : Nat) (hi : i ≤ n) : RdI k w A i (xs.take i) :=
  ⟨by rw [List.length_take, h.1]; omega, fun j x hj => h.2 j x (by
    rw [List.getElem?_take] at hj
    split at hj
    · exact hj
    · cases hj)⟩
theorem RdI.tail {k : IntKind} {w : World} {b o n : Nat} {xs : List Int} (h : RdI k w (some ⟨b, o, none⟩) n xs) (i : Nat) : RdI k w (some ⟨b, o + i, none⟩) (n - i) (xs.drop i) :=
  ⟨by rw [List.length_drop, h.1], fun j x hj => by
    rw [List.getElem?_drop] at hj
    obtain ⟨b', o', e, hb, hc⟩ := h.2 _ x hj
    cases e
    exact ⟨b, o + i, rfl, hb, by rw [Nat.add_assoc]; exact hc⟩⟩
def LessR (w : World) (c : Cb) (e : Ending) (w' : World) : Prop := ∃ y : Cv, e = .returned y.val ∧ y.c = c ∧ CvIs w' y ∧ Kp No w w'
theorem cut_lenI {l : List Nat} {i p : Nat} (h : l.length = p) (hi : i < p) : (cutL l i).length = i + (p - (i + 1)) := by
  unfold cutL
  rw [List.length_append, List.length_take, List.length_drop]
  omega
theorem own_cut {w : World} {base i p : Nat} {v : Value} {l : List Nat} (hl : l.length = p) (hi : i < p) (h : w.ownsRow base 3 1 v (i + (p - (i + 1))) (((l.take i).map Int.ofNat).map (Value.int .i64) ++ ((l.drop (i + 1)).map Int.ofNat).map (Value.int .i64))) : ∃ A d, v = .slice A (cutL l i).length d ∧ OwN w base (.slice A (cutL l i).length d) (cutL l i) := by
  obtain ⟨A, d, rfl, _⟩ := own_form h
  refine ⟨A, d, by rw [cut_lenI hl hi], ?_⟩
  unfold OwN
  rw [cut_lenI hl hi]
  have e : ((cutL l i).map Int.ofNat).map (Value.int .i64) = ((l.take i).map Int.ofNat).map (Value.int .i64) ++ ((l.drop (i + 1)).map Int.ofNat).map (Value.int .i64) := by unfold cutL; simp
  rw [e]
  exact h
set_option maxHeartbeats 8000000 in
set_option maxRecDepth 100000 in
theorem less_any (v : Cv) (i : Nat) (w : World) (hv : CvIs w v) (hi : i < v.p + v.q) (h1 : v.p ≤ 100000) (h2 : v.q ≤ 100000) (c1 : v.p ≤ v.cp ∧ v.cp ≤ maxLen) (c2 : v.q ≤ v.cq ∧ v.cq ≤ maxLen) :
    Calls Try.prog 11 #[v.val, .int .i64 (i : Nat)] w fun e w' => LessR w (lessC v.c i) e w' := by
  obtain ⟨P, p, cp, Q, q, cq, ⟨xs, xk⟩⟩ := v
  simp only [Cv.val, CvIs] at *
  have l1 : xs.length = p := by have := hv.1.1; simpa using this
  have l2 : xk.length = q := by have := hv.2.1; simpa using this
  obtain ⟨i0, hi0, hz0, hz1, hz2⟩ := info_parts infoI0
  obtain ⟨gx, hgx⟩ : ∃ gx, gx = w.heap.size := ⟨_, rfl⟩
  obtain ⟨gb, hgb⟩ : ∃ gb, gb = w.heap.size + 1 := ⟨_, rfl⟩
  obtain ⟨w1, hw1⟩ : ∃ w1, (w.alloc (.cells #[.slice P p cp, .slice Q q cq] 30)).alloc (.cells #[.slice none 0 0, .slice none 0 0] 30) = w1 := ⟨_, rfl⟩
  have k1 : Kp No w w1 := by rw [← hw1]; exact (Kp.alloc _ _ _).tr (Kp.alloc _ _ _)
  have hx : w1.heap[gx]? = some (.cells #[.slice P p cp, .slice Q q cq] 30 (0, 0)) := by rw [← hw1, hgx]; exact (Kp.alloc No _ _).heap (heap_alloc_new w _) id
  have hb : w1.heap[gb]? = some (.cells #[.slice none 0 0, .slice none 0 0] 30 (0, 0)) := by
    rw [← hw1, hgb]
    have := heap_alloc_new (w.alloc (.cells #[.slice P p cp, .slice Q q cq] 30)) (.cells #[.slice none 0 0, .slice none 0 0] 30)
    simpa using this
  rw [hgx] at hx
  obtain ⟨x0, x1, _, _⟩ := cell_head hx
  have HB := Lib.hid hb
  have HBL := Lib.hid (show gb < w1.heap.size from (Array.getElem?_eq_some_iff.1 hb).1)
  have HNE := Lib.hid (show gx ≠ gb by omega)
  have HGX := Lib.hid hgx
  have HGB := Lib.hid hgb
  have HV := Lib.hid hv
  have HWB := Lib.hid (show w.heap.size ≤ gb by omega)
  have HKT := Lib.hid (show ∀ W, Kp (Kq.One gb) w1 W → Kp No w W from fun W h => k1.trans h fun k hk e => by
    have e : k = gb := e
    have := HWB.out
    omega)
  have HL1 := Lib.hid l1
  have HL2 := Lib.hid l2
  unfold maxLen at c1 c2
  obtain ⟨c1, c1'⟩ := c1
  obtain ⟨c2, c2'⟩ := c2
  clear k1 hx hb hv l1 l2 hgx hgb
  go_enter Try.func11, Try.ntmps11
  by_cases hip : i < p
  · have HR := Lib.hid (show lessC ⟨xs, xk⟩ i = ⟨cutL xs i, xk⟩ by unfold lessC; rw [if_pos (by rw [HL1.out]; exact hip)])
    obtain ⟨b, o, rfl, hb, _⟩ := HV.out.1.2 i _ (map_at (List.getElem?_eq_getElem (by rw [HL1.out]; exact hip) : xs[i]? = some _))
    have HT1 := Lib.hid (show RdI .i64 w (some ⟨b, o, none⟩) i ((xs.take i).map Int.ofNat) by
      have h := RdI.part HV.out.1 i (by omega)
      rwa [← List.map_take] at h)
    have HT2 := Lib.hid (show RdI .i64 w (some ⟨b, o + (i + 1), none⟩) (p - (i + 1)) ((xs.drop (i + 1)).map Int.ofNat) by
      have h := RdI.tail HV.out.1 (i + 1)
      rwa [← List.map_drop] at h)
    have HLT1 := Lib.hid (show (((xs.take i).map Int.ofNat).map (Value.int .i64)).length = i * 1 by
      rw [List.length_map, List.length_map, List.length_take, HL1.out]; omega)
    have HLT2 := Lib.hid (show (((xs.drop (i + 1)).map Int.ofNat).map (Value.int .i64)).length = (p - (i + 1)) * 1 by
      rw [List.length_map, List.length_map, List.length_drop, HL1.out]; omega)
    have HIP := Lib.hid hip
    clear hi hb
    have hic : i ≤ cp := by omega
    have ew : IntKind.i64.wrap ((i : Int) + 1) = (i : Int) + 1 := by rw [IntKind.wrap_i64]; omega
    by_cases hcc : cp = i + 1
    · have HCC := Lib.hid hcc
      have hcl : i + 1 ≤ cp := by omega
      have HT2 := Lib.hid (show RdI .i64 w (some ⟨b, o, none⟩) (p - (i + 1)) ((xs.drop (i + 1)).map Int.ofNat) by
        have e : xs.drop (i + 1) = [] := List.drop_eq_nil_of_le (by rw [HL1.out]; omega)
        rw [e, show p - (i + 1) = 0 by omega]
        exact RdI.nil _ _)
      clear hcc
      go_wp2_with fail
      (try rw [hw1])
      rw [← HGB.out, ← HGX.out]
      rw [← HGX.out] at x0 x1
      refine wp_region_each (fun ix uR => match ix with | 1 => uR = .pointer (some ⟨gx, 0, none⟩) | 2 => uR = .slice (some ⟨b, o, none⟩) p cp | 3 => uR = .int .i64 (i : Nat) | 4 => uR = .slice (some ⟨b, o, none⟩) i cp | 6 => uR = .pointer (some ⟨gx, 0, none⟩) | 7 => uR = .slice (some ⟨b, o, none⟩) p cp | 8 => uR = .int .i64 (i : Nat) | 9 => uR = .int .i64 ((i : Int) + 1) | 10 => uR = .slice (some ⟨b, o, none⟩) (p - (i + 1)) 0 | 12 => uR = .pointer (some ⟨gx, 1, none⟩) | 13 => uR = .slice Q q cq | _ => True) (fun r w' => LsW 0 5 11 14 gb w1 xs i (fun u => .agg #[u, .slice Q q cq]) r w') (by kernel_rfl) (by kernel_rfl) (by kernel_rfl) ?_ ?_ ?_
      · exact LsW.start HB.out
      · refine ⟨?_, ?_, ?_, ?_, ?_, ?_, ?_, ?_, ?_, ?_, ?_, ?_, ?_, ?_, ?_, ?_, trivial⟩
        · intro r a w' hf hg hW hr hd K hK
          refine wpOp_of rfl rfl ?_
          go_simp
          exact hK _ _ trivial (hW.putB (by decide) (by decide) (by decide) (by decide) hr)
        · intro r a w' hf hg hW hr hd K hK
          refine wpOp_of rfl rfl ?_
          have e0 : a.tmps.getD 2 undef = .pointer (some ⟨gx, 0, none⟩) := hf.evalFree (by kernel_rfl)
          go_simp
          exact hK _ _ rfl (hW.upd 1 _ (by decide) (by decide) (by decide) (by decide) (by decide))
        · intro r a w' hf hg hW hr hd K hK
          refine wpOp_of rfl rfl ?_
          refine hf.depE hg hd 1 11 (by kernel_rfl) fun u0 e0 g0 h0 => ?_
          replace g0 : u0 = .pointer (some ⟨gx, 0, none⟩) := g0
          subst g0
          have z0 := hW.k1.cell x0 HNE.out
          go_simp
          exact hK _ _ rfl (hW.upd 2 _ (by decide) (by decide) (by decide) (by decide) (by decide))
        · intro r a w' hf hg hW hr hd K hK
          refine wpOp_of rfl rfl ?_
          have e0 : a.tmps.getD 1 undef = .int .i64 (i : Nat) := hf.evalFree (by kernel_rfl)
          go_simp
          exact hK _ _ rfl (hW.upd 3 _ (by decide) (by decide) (by decide) (by decide) (by decide))
        · intro r a w' hf hg hW hr hd K hK
          refine wpOp_of rfl rfl ?_
          refine hf.depE hg hd 2 12 (by kernel_rfl) fun u0 e0 g0 h0 => ?_
          replace g0 : u0 = .slice (some ⟨b, o, none⟩) p cp := g0
          subst g0
          refine hf.depE hg hd 3 13 (by kernel_rfl) fun u1 e1 g1 h1 => ?_
          replace g1 : u1 = .int .i64 (i : Nat) := g1
          subst g1
          go_simp
          exact hK _ _ rfl (hW.upd 4 _ (by decide) (by decide) (by decide) (by decide) (by decide))
        · intro r a w' hf hg hW hr hd K hK
          refine wpOp_of rfl rfl ?_
          refine hf.depE hg hd 0 10 (by kernel_rfl) fun u0 e0 g0 h0 => ?_
          refine hf.depE hg hd 4 14 (by kernel_rfl) fun u1 e1 g1 h1 => ?_
          replace g1 : u1 = .slice (some ⟨b, o, none⟩) i cp := g1
          subst g1
          obtain ⟨gq, hq, ho⟩ := hW.c0 u0 h0 hr
          subst hq
          refine wpo_append_nil (.tmp 10) (.tmp 14) 23 rfl w1.heap.size 3 i0 _ 1 8 Try.underlying23 hi0 hz0 hz1 hz2 rfl (by decide) _ 0 [] e0 ho (some ⟨b, o, none⟩) i cp (((xs.take i).map Int.ofNat).map (Value.int .i64)) e1 HLT1.out (fun h => by cases h) (rdi_news (HT1.out.no (HKT.out _ hW.k1))) (ints_oneCell .i64 _) (by unfold maxLen; omega) (by omega) hW.k1.size (fun v' w'' ho2 hgr _ => ?_)
          rw [Nat.zero_add, List.nil_append] at ho2
          exact hK _ _ trivial (hW.putA1 (by decide) (by decide) (by decide) (by decide) hr (by rw [h0]; simp) ho HBL.out ho2 hgr)
        · intro r a w' hf hg hW hr hd K hK
          refine wpOp_of rfl rfl ?_
          have e0 : a.tmps.getD 2 undef = .pointer (some ⟨gx, 0, none⟩) := hf.evalFree (by kernel_rfl)
          go_simp
          exact hK _ _ rfl (hW.upd 6 _ (by decide) (by decide) (by decide) (by decide) (by decide))
        · intro r a w' hf hg hW hr hd K hK
          refine wpOp_of rfl rfl ?_
          refine hf.depE hg hd 6 16 (by kernel_rfl) fun u0 e0 g0 h0 => ?_
          replace g0 : u0 = .pointer (some ⟨gx, 0, none⟩) := g0
          subst g0
          have z0 := hW.k1.cell x0 HNE.out
          go_simp
          exact hK _ _ rfl (hW.upd 7 _ (by decide) (by decide) (by decide) (by decide) (by decide))
        · intro r a w' hf hg hW hr hd K hK
          refine wpOp_of rfl rfl ?_
          have e0 : a.tmps.getD 1 undef = .int .i64 (i : Nat) := hf.evalFree (by kernel_rfl)
          go_simp
          exact hK _ _ rfl (hW.upd 8 _ (by decide) (by decide) (by decide) (by decide) (by decide))
        · intro r a w' hf hg hW hr hd K hK
          refine wpOp_of rfl rfl ?_
          refine hf.depE hg hd 8 18 (by kernel_rfl) fun u0 e0 g0 h0 => ?_
          replace g0 : u0 = .int .i64 (i : Nat) := g0
          subst g0
          go_simp
          exact hK _ _ rfl (hW.upd 9 _ (by decide) (by decide) (by decide) (by decide) (by decide))
        · intro r a w' hf hg hW hr hd K hK
          refine wpOp_of rfl rfl ?_
          refine hf.depE hg hd 7 17 (by kernel_rfl) fun u0 e0 g0 h0 => ?_
          replace g0 : u0 = .slice (some ⟨b, o, none⟩) p cp := g0
          subst g0
          refine hf.depE hg hd 9 19 (by kernel_rfl) fun u1 e1 g1 h1 => ?_
          replace g1 : u1 = .int .i64 ((i : Int) + 1) := g1
          subst g1
          go_simp
          rw [if_pos (show 0 ≤ (i : Int) + 1 ∧ (i : Int) + 1 ≤ (p : Int) from ⟨by omega, by omega⟩)]
          rw [if_pos HCC.out, show cp - (i + 1) = 0 by have := HCC.out; omega]
          exact hK _ _ rfl (hW.upd 10 _ (by decide) (by decide) (by decide) (by decide) (by decide))
        · intro r a w' hf hg hW hr hd K hK
          refine wpOp_of rfl rfl ?_
          refine hf.depE hg hd 5 15 (by kernel_rfl) fun u0 e0 g0 h0 => ?_
          refine hf.depE hg hd 10 20 (by kernel_rfl) fun u1 e1 g1 h1 => ?_
          replace g1 : u1 = .slice (some ⟨b, o, none⟩) (p - (i + 1)) 0 := g1
          subst g1
          have ho := hW.c1 u0 h0 hr
          refine wpo_append_nil (.tmp 15) (.tmp 20) 23 rfl w1.heap.size 3 i0 _ 1 8 Try.underlying23 hi0 hz0 hz1 hz2 rfl (by decide) u0 i _ e0 ho (some ⟨b, o, none⟩) (p - (i + 1)) 0 (((xs.drop (i + 1)).map Int.ofNat).map (Value.int .i64)) e1 HLT2.out (fun h => by cases h) (rdi_news (HT2.out.no (HKT.out _ hW.k1))) (ints_oneCell .i64 _) (by unfold maxLen; omega) (by omega) hW.k1.size (fun v' w'' ho2 hgr _ => ?_)
          obtain ⟨A3, d3, rfl, ho3⟩ := own_cut HL1.out HIP.out ho2
          exact hK _ _ trivial (hW.putA2 (by decide) (by decide) (by decide) (by decide) hr (by rw [h0]; simp) ho HBL.out A3 d3 ho3 hgr)
        · intro r a w' hf hg hW hr hd K hK
          refine wpOp_of rfl rfl ?_
          have e0 : a.tmps.getD 2 undef = .pointer (some ⟨gx, 0, none⟩) := hf.evalFree (by kernel_rfl)
          go_simp
          exact hK _ _ rfl (hW.upd 12 _ (by decide) (by decide) (by decide) (by decide) (by decide))
        · intro r a w' hf hg hW hr hd K hK
          refine wpOp_of rfl rfl ?_
          refine hf.depE hg hd 12 22 (by kernel_rfl) fun u0 e0 g0 h0 => ?_
          replace g0 : u0 = .pointer (some ⟨gx, 1, none⟩) := g0
          subst g0
          have z0 := hW.k1.cell x1 HNE.out
          go_simp
          exact hK _ _ rfl (hW.upd 13 _ (by decide) (by decide) (by decide) (by decide) (by decide))
        · intro r a w' hf hg hW hr hd K hK
          refine wpOp_of rfl rfl ?_
          refine hf.depE hg hd 11 21 (by kernel_rfl) fun u0 e0 g0 h0 => ?_
          have e0' := get_of_getD e0
          refine hf.depE hg hd 13 23 (by kernel_rfl) fun u1 e1 g1 h1 => ?_
          replace g1 : u1 = .slice Q q cq := g1
          subst g1
          have e1' := get_of_getD e1
          obtain ⟨A3, d3, hq, _⟩ := hW.c2 u0 h0
          subst hq
          go_simp
          exact hK _ _ trivial (hW.putBd (by decide) (by decide) (by decide) (by decide) hr h0)
        · intro r a w' hf hg hW hr hd K hK
          refine wpOp_of rfl rfl ?_
          have e0 : a.tmps.getD 4 undef = .pointer (some ⟨gb, 0, none⟩) := hf.evalFree (by kernel_rfl)
          refine hf.depE hg hd 14 24 (by kernel_rfl) fun u1 e1 g1 h1 => ?_
          obtain ⟨u2, hu2, hm⟩ := hW.c3 u1 h1
          obtain ⟨A3, d3, hq, _⟩ := hW.c2 u2 hu2
          subst hq
          subst hm
          have hbx := hW.bx hr
          obtain ⟨_, _, f0, f1⟩ := cell_head hbx
          go_simp
          exact hK undef _ trivial (hW.put15 (by decide) (by decide) (by decide) (by decide) HBL.out undef hu2 (by rw [h1]; simp) rfl ((kp_setOne _ _ _ _).tr (kp_setOne _ _ _ _)) (by simp [World.setCell, Array.getElem?_modify, hbx]))
      intro r' w2 hg hW hr'
      obtain ⟨q11, hq11⟩ : ∃ u, r' 11 = some u := Option.ne_none_iff_exists'.1 (hr' 11 (by decide))
      simp only [List.length_cons, List.length_nil, Nat.reduceAdd, List.range_succ, List.range_zero, List.nil_append, List.cons_append, List.map_cons, List.map_nil, putAll, Act.put, List.setIfInBounds_toArray, List.set_cons_succ, List.set_cons_zero, hq11, Option.getD_some]
      obtain ⟨A3, d3, u3, h3, ho3, hm3, hb3, hk3⟩ := hW.fin (hr' 15 (by decide))
      rw [hq11] at h3
      cases h3
      replace hm3 : u3 = #[.slice A3 (cutL xs i).length d3, .slice Q q cq] := by injection hm3 with hm3; exact hm3.symm
      subst hm3
      obtain ⟨y0, y1, _, _⟩ := cell_head hb3
      have HO3 := Lib.hid ho3
      have HK3 := Lib.hid hk3
      clear hg hW hr' hq11 ho3 hk3 hb3 x0 x1
      go_wp2_with fail
      exact bodyPost_ret (v := .agg #[.slice A3 (cutL xs i).length d3, .slice Q q cq]) (by simp [results, Try.results11, go_sem, y0, y1]) rfl ⟨⟨A3, (cutL xs i).length, d3, Q, q, cq, ⟨cutL xs i, xk⟩⟩, rfl, HR.out.symm, ⟨RdI.of_own HO3.out, HV.out.2.no (HKT.out _ HK3.out)⟩, HKT.out _ HK3.out⟩
    · go_wp2_with fail
      (try rw [hw1])
      rw [← HGB.out, ← HGX.out]
      rw [← HGX.out] at x0 x1
      refine wp_region_each (fun ix uR => match ix with | 1 => uR = .pointer (some ⟨gx, 0, none⟩) | 2 => uR = .slice (some ⟨b, o, none⟩) p cp | 3 => uR = .int .i64 (i : Nat) | 4 => uR = .slice (some ⟨b, o, none⟩) i cp | 6 => uR = .pointer (some ⟨gx, 0, none⟩) | 7 => uR = .slice (some ⟨b, o, none⟩) p cp | 8 => uR = .int .i64 (i : Nat) | 9 => uR = .int .i64 ((i : Int) + 1) | 10 => uR = .slice (some ⟨b, o + (i + 1), none⟩) (p - (i + 1)) (cp - (i + 1)) | 12 => uR = .pointer (some ⟨gx, 1, none⟩) | 13 => uR = .slice Q q cq | _ => True) (fun r w' => LsW 0 5 11 14 gb w1 xs i (fun u => .agg #[u, .slice Q q cq]) r w') (by kernel_rfl) (by kernel_rfl) (by kernel_rfl) ?_ ?_ ?_
      · exact LsW.start HB.out
      · refine ⟨?_, ?_, ?_, ?_, ?_, ?_, ?_, ?_, ?_, ?_, ?_, ?_, ?_, ?_, ?_, ?_, trivial⟩
        · intro r a w' hf hg hW hr hd K hK
          refine wpOp_of rfl rfl ?_
          go_simp
          exact hK _ _ trivial (hW.putB (by decide) (by decide) (by decide) (by decide) hr)
        · intro r a w' hf hg hW hr hd K hK
          refine wpOp_of rfl rfl ?_
          have e0 : a.tmps.getD 2 undef = .pointer (some ⟨gx, 0, none⟩) := hf.evalFree (by kernel_rfl)
          go_simp
          exact hK _ _ rfl (hW.upd 1 _ (by decide) (by decide) (by decide) (by decide) (by decide))
        · intro r a w' hf hg hW hr hd K hK
          refine wpOp_of rfl rfl ?_
          refine hf.depE hg hd 1 11 (by kernel_rfl) fun u0 e0 g0 h0 => ?_
          replace g0 : u0 = .pointer (some ⟨gx, 0, none⟩) := g0
          subst g0
          have z0 := hW.k1.cell x0 HNE.out
          go_simp
          exact hK _ _ rfl (hW.upd 2 _ (by decide) (by decide) (by decide) (by decide) (by decide))
        · intro r a w' hf hg hW hr hd K hK
          refine wpOp_of rfl rfl ?_
          have e0 : a.tmps.getD 1 undef = .int .i64 (i : Nat) := hf.evalFree (by kernel_rfl)
          go_simp
          exact hK _ _ rfl (hW.upd 3 _ (by decide) (by decide) (by decide) (by decide) (by decide))
        · intro r a w' hf hg hW hr hd K hK
          refine wpOp_of rfl rfl ?_
          refine hf.depE hg hd 2 12 (by kernel_rfl) fun u0 e0 g0 h0 => ?_
          replace g0 : u0 = .slice (some ⟨b, o, none⟩) p cp := g0
          subst g0
          refine hf.depE hg hd 3 13 (by kernel_rfl) fun u1 e1 g1 h1 => ?_
          replace g1 : u1 = .int .i64 (i : Nat) := g1
          subst g1
          go_simp
          exact hK _ _ rfl (hW.upd 4 _ (by decide) (by decide) (by decide) (by decide) (by decide))
        · intro r a w' hf hg hW hr hd K hK
          refine wpOp_of rfl rfl ?_
          refine hf.depE hg hd 0 10 (by kernel_rfl) fun u0 e0 g0 h0 => ?_
          refine hf.depE hg hd 4 14 (by kernel_rfl) fun u1 e1 g1 h1 => ?_
          replace g1 : u1 = .slice (some ⟨b, o, none⟩) i cp := g1
          subst g1
          obtain ⟨gq, hq, ho⟩ := hW.c0 u0 h0 hr
          subst hq
          refine wpo_append_nil (.tmp 10) (.tmp 14) 23 rfl w1.heap.size 3 i0 _ 1 8 Try.underlying23 hi0 hz0 hz1 hz2 rfl (by decide) _ 0 [] e0 ho (some ⟨b, o, none⟩) i cp (((xs.take i).map Int.ofNat).map (Value.int .i64)) e1 HLT1.out (fun h => by cases h) (rdi_news (HT1.out.no (HKT.out _ hW.k1))) (ints_oneCell .i64 _) (by unfold maxLen; omega) (by omega) hW.k1.size (fun v' w'' ho2 hgr _ => ?_)
          rw [Nat.zero_add, List.nil_append] at ho2
          exact hK _ _ trivial (hW.putA1 (by decide) (by decide) (by decide) (by decide) hr (by rw [h0]; simp) ho HBL.out ho2 hgr)
        · intro r a w' hf hg hW hr hd K hK
          refine wpOp_of rfl rfl ?_
          have e0 : a.tmps.getD 2 undef = .pointer (some ⟨gx, 0, none⟩) := hf.evalFree (by kernel_rfl)
          go_simp
          exact hK _ _ rfl (hW.upd 6 _ (by decide) (by decide) (by decide) (by decide) (by decide))
        · intro r a w' hf hg hW hr hd K hK
          refine wpOp_of rfl rfl ?_
          refine hf.depE hg hd 6 16 (by kernel_rfl) fun u0 e0 g0 h0 => ?_
          replace g0 : u0 = .pointer (some ⟨gx, 0, none⟩) := g0
          subst g0
          have z0 := hW.k1.cell x0 HNE.out
          go_simp
          exact hK _ _ rfl (hW.upd 7 _ (by decide) (by decide) (by decide) (by decide) (by decide))
        · intro r a w' hf hg hW hr hd K hK
          refine wpOp_of rfl rfl ?_
          have e0 : a.tmps.getD 1 undef = .int .i64 (i : Nat) := hf.evalFree (by kernel_rfl)
          go_simp
          exact hK _ _ rfl (hW.upd 8 _ (by decide) (by decide) (by decide) (by decide) (by decide))
        · intro r a w' hf hg hW hr hd K hK
          refine wpOp_of rfl rfl ?_
          refine hf.depE hg hd 8 18 (by kernel_rfl) fun u0 e0 g0 h0 => ?_
          replace g0 : u0 = .int .i64 (i : Nat) := g0
          subst g0
          go_simp
          exact hK _ _ rfl (hW.upd 9 _ (by decide) (by decide) (by decide) (by decide) (by decide))
        · intro r a w' hf hg hW hr hd K hK
          refine wpOp_of rfl rfl ?_
          refine hf.depE hg hd 7 17 (by kernel_rfl) fun u0 e0 g0 h0 => ?_
          replace g0 : u0 = .slice (some ⟨b, o, none⟩) p cp := g0
          subst g0
          refine hf.depE hg hd 9 19 (by kernel_rfl) fun u1 e1 g1 h1 => ?_
          replace g1 : u1 = .int .i64 ((i : Int) + 1) := g1
          subst g1
          go_simp
          rw [if_pos (show 0 ≤ (i : Int) + 1 ∧ (i : Int) + 1 ≤ (p : Int) from ⟨by omega, by omega⟩)]
          exact hK _ _ rfl (hW.upd 10 _ (by decide) (by decide) (by decide) (by decide) (by decide))
        · intro r a w' hf hg hW hr hd K hK
          refine wpOp_of rfl rfl ?_
          refine hf.depE hg hd 5 15 (by kernel_rfl) fun u0 e0 g0 h0 => ?_
          refine hf.depE hg hd 10 20 (by kernel_rfl) fun u1 e1 g1 h1 => ?_
          replace g1 : u1 = .slice (some ⟨b, o + (i + 1), none⟩) (p - (i + 1)) (cp - (i + 1)) := g1
          subst g1
          have ho := hW.c1 u0 h0 hr
          refine wpo_append_nil (.tmp 15) (.tmp 20) 23 rfl w1.heap.size 3 i0 _ 1 8 Try.underlying23 hi0 hz0 hz1 hz2 rfl (by decide) u0 i _ e0 ho (some ⟨b, o + (i + 1), none⟩) (p - (i + 1)) (cp - (i + 1)) (((xs.drop (i + 1)).map Int.ofNat).map (Value.int .i64)) e1 HLT2.out (fun h => by cases h) (rdi_news (HT2.out.no (HKT.out _ hW.k1))) (ints_oneCell .i64 _) (by unfold maxLen; omega) (by omega) hW.k1.size (fun v' w'' ho2 hgr _ => ?_)
          obtain ⟨A3, d3, rfl, ho3⟩ := own_cut HL1.out HIP.out ho2
          exact hK _ _ trivial (hW.putA2 (by decide) (by decide) (by decide) (by decide) hr (by rw [h0]; simp) ho HBL.out A3 d3 ho3 hgr)
        · intro r a w' hf hg hW hr hd K hK
          refine wpOp_of rfl rfl ?_
          have e0 : a.tmps.getD 2 undef = .pointer (some ⟨gx, 0, none⟩) := hf.evalFree (by kernel_rfl)
          go_simp
          exact hK _ _ rfl (hW.upd 12 _ (by decide) (by decide) (by decide) (by decide) (by decide))
        · intro r a w' hf hg hW hr hd K hK
          refine wpOp_of rfl rfl ?_
          refine hf.depE hg hd 12 22 (by kernel_rfl) fun u0 e0 g0 h0 => ?_
          replace g0 : u0 = .pointer (some ⟨gx, 1, none⟩) := g0
          subst g0
          have z0 := hW.k1.cell x1 HNE.out
          go_simp
          exact hK _ _ rfl (hW.upd 13 _ (by decide) (by decide) (by decide) (by decide) (by decide))
        · intro r a w' hf hg hW hr hd K hK
          refine wpOp_of rfl rfl ?_
          refine hf.depE hg hd 11 21 (by kernel_rfl) fun u0 e0 g0 h0 => ?_
          have e0' := get_of_getD e0
          refine hf.depE hg hd 13 23 (by kernel_rfl) fun u1 e1 g1 h1 => ?_
          replace g1 : u1 = .slice Q q cq := g1
          subst g1
          have e1' := get_of_getD e1
          obtain ⟨A3, d3, hq, _⟩ := hW.c2 u0 h0
          subst hq
          go_simp
          exact hK _ _ trivial (hW.putBd (by decide) (by decide) (by decide) (by decide) hr h0)
        · intro r a w' hf hg hW hr hd K hK
          refine wpOp_of rfl rfl ?_
          have e0 : a.tmps.getD 4 undef = .pointer (some ⟨gb, 0, none⟩) := hf.evalFree (by kernel_rfl)
          refine hf.depE hg hd 14 24 (by kernel_rfl) fun u1 e1 g1 h1 => ?_
          obtain ⟨u2, hu2, hm⟩ := hW.c3 u1 h1
          obtain ⟨A3, d3, hq, _⟩ := hW.c2 u2 hu2
          subst hq
          subst hm
          have hbx := hW.bx hr
          obtain ⟨_, _, f0, f1⟩ := cell_head hbx
          go_simp
          exact hK undef _ trivial (hW.put15 (by decide) (by decide) (by decide) (by decide) HBL.out undef hu2 (by rw [h1]; simp) rfl ((kp_setOne _ _ _ _).tr (kp_setOne _ _ _ _)) (by simp [World.setCell, Array.getElem?_modify, hbx]))
      intro r' w2 hg hW hr'
      obtain ⟨q11, hq11⟩ : ∃ u, r' 11 = some u := Option.ne_none_iff_exists'.1 (hr' 11 (by decide))
      simp only [List.length_cons, List.length_nil, Nat.reduceAdd, List.range_succ, List.range_zero, List.nil_append, List.cons_append, List.map_cons, List.map_nil, putAll, Act.put, List.setIfInBounds_toArray, List.set_cons_succ, List.set_cons_zero, hq11, Option.getD_some]
      obtain ⟨A3, d3, u3, h3, ho3, hm3, hb3, hk3⟩ := hW.fin (hr' 15 (by decide))
      rw [hq11] at h3
      cases h3
      replace hm3 : u3 = #[.slice A3 (cutL xs i).length d3, .slice Q q cq] := by injection hm3 with hm3; exact hm3.symm
      subst hm3
      obtain ⟨y0, y1, _, _⟩ := cell_head hb3
      have HO3 := Lib.hid ho3
      have HK3 := Lib.hid hk3
      clear hg hW hr' hq11 ho3 hk3 hb3 x0 x1
      go_wp2_with fail
      exact bodyPost_ret (v := .agg #[.slice A3 (cutL xs i).length d3, .slice Q q cq]) (by simp [results, Try.results11, go_sem, y0, y1]) rfl ⟨⟨A3, (cutL xs i).length, d3, Q, q, cq, ⟨cutL xs i, xk⟩⟩, rfl, HR.out.symm, ⟨RdI.of_own HO3.out, HV.out.2.no (HKT.out _ HK3.out)⟩, HKT.out _ HK3.out⟩
  · obtain ⟨j, hj⟩ : ∃ j, i = p + j := ⟨i - p, by omega⟩
    have hjq : j < q := by omega
    have HJ := Lib.hid hj
    have HR := Lib.hid (show lessC ⟨xs, xk⟩ i = ⟨xs, cutL xk j⟩ by
      unfold lessC
      rw [if_neg (by rw [HL1.out]; exact hip)]
      simp only [HL1.out]
      rw [show i - p = j by have := HJ.out; omega])
    obtain ⟨b, o, rfl, hb, _⟩ := HV.out.2.2 j _ (map_at (List.getElem?_eq_getElem (by rw [HL2.out]; exact hjq) : xk[j]? = some _))
    have HT1 := Lib.hid (show RdI .i64 w (some ⟨b, o, none⟩) j ((xk.take j).map Int.ofNat) by
      have h := RdI.part HV.out.2 j (by omega)
      rwa [← List.map_take] at h)
    have HT2 := Lib.hid (show RdI .i64 w (some ⟨b, o + (j + 1), none⟩) (q - (j + 1)) ((xk.drop (j + 1)).map Int.ofNat) by
      have h := RdI.tail HV.out.2 (j + 1)
      rwa [← List.map_drop] at h)
    have HLT1 := Lib.hid (show (((xk.take j).map Int.ofNat).map (Value.int .i64)).length = j * 1 by
      rw [List.length_map, List.length_map, List.length_take, HL2.out]; omega)
    have HLT2 := Lib.hid (show (((xk.drop (j + 1)).map Int.ofNat).map (Value.int .i64)).length = (q - (j + 1)) * 1 by
      rw [List.length_map, List.length_map, List.length_drop, HL2.out]; omega)
    have HIP := Lib.hid hjq
    have e1 : wrap64 ((i : Int) - (p : Int)) = (j : Int) := by rw [IntWalk.wrap64_in _ (by omega)]; omega
    have e1' : IntKind.i64.wrap ((i : Int) - (p : Int)) = (j : Int) := by rw [IntKind.wrap_i64]; omega
    have dpj : decide ((i : Int) < (p : Int)) = false := decide_eq_false (by omega)
    have hjc : ¬ i < p := hip
    clear hi hb hip hj
    have hic : j ≤ cq := by omega
    have ew : IntKind.i64.wrap ((j : Int) + 1) = (j : Int) + 1 := by rw [IntKind.wrap_i64]; omega
    by_cases hcc : cq = j + 1
    · have HCC := Lib.hid hcc
      have hcl : j + 1 ≤ cq := by omega
      have HT2 := Lib.hid (show RdI .i64 w (some ⟨b, o, none⟩) (q - (j + 1)) ((xk.drop (j + 1)).map Int.ofNat) by
        have e : xk.drop (j + 1) = [] := List.drop_eq_nil_of_le (by rw [HL2.out]; omega)
        rw [e, show q - (j + 1) = 0 by omega]
        exact RdI.nil _ _)
      clear hcc
      go_wp2_with fail
      (try rw [hw1])
      rw [← HGB.out, ← HGX.out]
      rw [← HGX.out] at x0 x1
      refine wp_region_each (fun ix uR => match ix with | 0 => uR = .pointer (some ⟨gx, 0, none⟩) | 1 => uR = .slice P p cp | 3 => uR = .pointer (some ⟨gx, 1, none⟩) | 4 => uR = .slice (some ⟨b, o, none⟩) q cq | 5 => uR = .int .i64 (j : Nat) | 6 => uR = .slice (some ⟨b, o, none⟩) j cq | 8 => uR = .pointer (some ⟨gx, 1, none⟩) | 9 => uR = .slice (some ⟨b, o, none⟩) q cq | 10 => uR = .int .i64 (j : Nat) | 11 => uR = .int .i64 ((j : Int) + 1) | 12 => uR = .slice (some ⟨b, o, none⟩) (q - (j + 1)) 0 | _ => True) (fun r w' => LsW 2 7 13 14 gb w1 xk j (fun u => .agg #[.slice P p cp, u]) r w') (by kernel_rfl) (by kernel_rfl) (by kernel_rfl) ?_ ?_ ?_
      · exact LsW.start HB.out
      · refine ⟨?_, ?_, ?_, ?_, ?_, ?_, ?_, ?_, ?_, ?_, ?_, ?_, ?_, ?_, ?_, ?_, trivial⟩
        · intro r a w' hf hg hW hr hd K hK
          refine wpOp_of rfl rfl ?_
          have e0 : a.tmps.getD 2 undef = .pointer (some ⟨gx, 0, none⟩) := hf.evalFree (by kernel_rfl)
          go_simp
          exact hK _ _ rfl (hW.upd 0 _ (by decide) (by decide) (by decide) (by decide) (by decide))
        · intro r a w' hf hg hW hr hd K hK
          refine wpOp_of rfl rfl ?_
          refine hf.depE hg hd 0 30 (by kernel_rfl) fun u0 e0 g0 h0 => ?_
          replace g0 : u0 = .pointer (some ⟨gx, 0, none⟩) := g0
          subst g0
          have z0 := hW.k1.cell x0 HNE.out
          go_simp
          exact hK _ _ rfl (hW.upd 1 _ (by decide) (by decide) (by decide) (by decide) (by decide))
        · intro r a w' hf hg hW hr hd K hK
          refine wpOp_of rfl rfl ?_
          go_simp
          exact hK _ _ trivial (hW.putB (by decide) (by decide) (by decide) (by decide) hr)
        · intro r a w' hf hg hW hr hd K hK
          refine wpOp_of rfl rfl ?_
          have e0 : a.tmps.getD 2 undef = .pointer (some ⟨gx, 0, none⟩) := hf.evalFree (by kernel_rfl)
          go_simp
          exact hK _ _ rfl (hW.upd 3 _ (by decide) (by decide) (by decide) (by decide) (by decide))
        · intro r a w' hf hg hW hr hd K hK
          refine wpOp_of rfl rfl ?_
          refine hf.depE hg hd 3 33 (by kernel_rfl) fun u0 e0 g0 h0 => ?_
          replace g0 : u0 = .pointer (some ⟨gx, 1, none⟩) := g0
          subst g0
          have z0 := hW.k1.cell x1 HNE.out
          go_simp
          exact hK _ _ rfl (hW.upd 4 _ (by decide) (by decide) (by decide) (by decide) (by decide))
        · intro r a w' hf hg hW hr hd K hK
          refine wpOp_of rfl rfl ?_
          have e0 : a.tmps.getD 1 undef = .int .i64 (j : Nat) := hf.evalFree (by kernel_rfl)
          go_simp
          exact hK _ _ rfl (hW.upd 5 _ (by decide) (by decide) (by decide) (by decide) (by decide))
        · intro r a w' hf hg hW hr hd K hK
          refine wpOp_of rfl rfl ?_
          refine hf.depE hg hd 4 34 (by kernel_rfl) fun u0 e0 g0 h0 => ?_
          replace g0 : u0 = .slice (some ⟨b, o, none⟩) q cq := g0
          subst g0
          refine hf.depE hg hd 5 35 (by kernel_rfl) fun u1 e1 g1 h1 => ?_
          replace g1 : u1 = .int .i64 (j : Nat) := g1
          subst g1
          go_simp
          exact hK _ _ rfl (hW.upd 6 _ (by decide) (by decide) (by decide) (by decide) (by decide))
        · intro r a w' hf hg hW hr hd K hK
          refine wpOp_of rfl rfl ?_
          refine hf.depE hg hd 2 32 (by kernel_rfl) fun u0 e0 g0 h0 => ?_
          refine hf.depE hg hd 6 36 (by kernel_rfl) fun u1 e1 g1 h1 => ?_
          replace g1 : u1 = .slice (some ⟨b, o, none⟩) j cq := g1
          subst g1
          obtain ⟨gq, hq, ho⟩ := hW.c0 u0 h0 hr
          subst hq
          refine wpo_append_nil (.tmp 32) (.tmp 36) 23 rfl w1.heap.size 3 i0 _ 1 8 Try.underlying23 hi0 hz0 hz1 hz2 rfl (by decide) _ 0 [] e0 ho (some ⟨b, o, none⟩) j cq (((xk.take j).map Int.ofNat).map (Value.int .i64)) e1 HLT1.out (fun h => by cases h) (rdi_news (HT1.out.no (HKT.out _ hW.k1))) (ints_oneCell .i64 _) (by unfold maxLen; omega) (by omega) hW.k1.size (fun v' w'' ho2 hgr _ => ?_)
          rw [Nat.zero_add, List.nil_append] at ho2
          exact hK _ _ trivial (hW.putA1 (by decide) (by decide) (by decide) (by decide) hr (by rw [h0]; simp) ho HBL.out ho2 hgr)
        · intro r a w' hf hg hW hr hd K hK
          refine wpOp_of rfl rfl ?_
          have e0 : a.tmps.getD 2 undef = .pointer (some ⟨gx, 0, none⟩) := hf.evalFree (by kernel_rfl)
          go_simp
          exact hK _ _ rfl (hW.upd 8 _ (by decide) (by decide) (by decide) (by decide) (by decide))
        · intro r a w' hf hg hW hr hd K hK
          refine wpOp_of rfl rfl ?_
          refine hf.depE hg hd 8 38 (by kernel_rfl) fun u0 e0 g0 h0 => ?_
          replace g0 : u0 = .pointer (some ⟨gx, 1, none⟩) := g0
          subst g0
          have z0 := hW.k1.cell x1 HNE.out
          go_simp
          exact hK _ _ rfl (hW.upd 9 _ (by decide) (by decide) (by decide) (by decide) (by decide))
        · intro r a w' hf hg hW hr hd K hK
          refine wpOp_of rfl rfl ?_
          have e0 : a.tmps.getD 1 undef = .int .i64 (j : Nat) := hf.evalFree (by kernel_rfl)
          go_simp
          exact hK _ _ rfl (hW.upd 10 _ (by decide) (by decide) (by decide) (by decide) (by decide))
        · intro r a w' hf hg hW hr hd K hK
          refine wpOp_of rfl rfl ?_
          refine hf.depE hg hd 10 40 (by kernel_rfl) fun u0 e0 g0 h0 => ?_
          replace g0 : u0 = .int .i64 (j : Nat) := g0
          subst g0
          go_simp
          exact hK _ _ rfl (hW.upd 11 _ (by decide) (by decide) (by decide) (by decide) (by decide))
        · intro r a w' hf hg hW hr hd K hK
          refine wpOp_of rfl rfl ?_
          refine hf.depE hg hd 9 39 (by kernel_rfl) fun u0 e0 g0 h0 => ?_
          replace g0 : u0 = .slice (some ⟨b, o, none⟩) q cq := g0
          subst g0
          refine hf.depE hg hd 11 41 (by kernel_rfl) fun u1 e1 g1 h1 => ?_
          replace g1 : u1 = .int .i64 ((j : Int) + 1) := g1
          subst g1
          go_simp
          rw [if_pos (show 0 ≤ (j : Int) + 1 ∧ (j : Int) + 1 ≤ (q : Int) from ⟨by omega, by omega⟩)]
          rw [if_pos HCC.out, show cq - (j + 1) = 0 by have := HCC.out; omega]
          exact hK _ _ rfl (hW.upd 12 _ (by decide) (by decide) (by decide) (by decide) (by decide))
        · intro r a w' hf hg hW hr hd K hK
          refine wpOp_of rfl rfl ?_
          refine hf.depE hg hd 7 37 (by kernel_rfl) fun u0 e0 g0 h0 => ?_
          refine hf.depE hg hd 12 42 (by kernel_rfl) fun u1 e1 g1 h1 => ?_
          replace g1 : u1 = .slice (some ⟨b, o, none⟩) (q - (j + 1)) 0 := g1
          subst g1
          have ho := hW.c1 u0 h0 hr
          refine wpo_append_nil (.tmp 37) (.tmp 42) 23 rfl w1.heap.size 3 i0 _ 1 8 Try.underlying23 hi0 hz0 hz1 hz2 rfl (by decide) u0 j _ e0 ho (some ⟨b, o, none⟩) (q - (j + 1)) 0 (((xk.drop (j + 1)).map Int.ofNat).map (Value.int .i64)) e1 HLT2.out (fun h => by cases h) (rdi_news (HT2.out.no (HKT.out _ hW.k1))) (ints_oneCell .i64 _) (by unfold maxLen; omega) (by omega) hW.k1.size (fun v' w'' ho2 hgr _ => ?_)
          obtain ⟨A3, d3, rfl, ho3⟩ := own_cut HL2.out HIP.out ho2
          exact hK _ _ trivial (hW.putA2 (by decide) (by decide) (by decide) (by decide) hr (by rw [h0]; simp) ho HBL.out A3 d3 ho3 hgr)
        · intro r a w' hf hg hW hr hd K hK
          refine wpOp_of rfl rfl ?_
          refine hf.depE hg hd 1 31 (by kernel_rfl) fun u0 e0 g0 h0 => ?_
          replace g0 : u0 = .slice P p cp := g0
          subst g0
          have e0' := get_of_getD e0
          refine hf.depE hg hd 13 43 (by kernel_rfl) fun u1 e1 g1 h1 => ?_
          have e1' := get_of_getD e1
          obtain ⟨A3, d3, hq, _⟩ := hW.c2 u1 h1
          subst hq
          go_simp
          exact hK _ _ trivial (hW.putBd (by decide) (by decide) (by decide) (by decide) hr h1)
        · intro r a w' hf hg hW hr hd K hK
          refine wpOp_of rfl rfl ?_
          have e0 : a.tmps.getD 4 undef = .pointer (some ⟨gb, 0, none⟩) := hf.evalFree (by kernel_rfl)
          refine hf.depE hg hd 14 44 (by kernel_rfl) fun u1 e1 g1 h1 => ?_
          obtain ⟨u2, hu2, hm⟩ := hW.c3 u1 h1
          obtain ⟨A3, d3, hq, _⟩ := hW.c2 u2 hu2
          subst hq
          subst hm
          have hbx := hW.bx hr
          obtain ⟨_, _, f0, f1⟩ := cell_head hbx
          go_simp
          exact hK undef _ trivial (hW.put15 (by decide) (by decide) (by decide) (by decide) HBL.out undef hu2 (by rw [h1]; simp) rfl ((kp_setOne _ _ _ _).tr (kp_setOne _ _ _ _)) (by simp [World.setCell, Array.getElem?_modify, hbx]))
      intro r' w2 hg hW hr'
      obtain ⟨q13, hq13⟩ : ∃ u, r' 13 = some u := Option.ne_none_iff_exists'.1 (hr' 13 (by decide))
      simp only [List.length_cons, List.length_nil, Nat.reduceAdd, List.range_succ, List.range_zero, List.nil_append, List.cons_append, List.map_cons, List.map_nil, putAll, Act.put, List.setIfInBounds_toArray, List.set_cons_succ, List.set_cons_zero, hq13, Option.getD_some]
      obtain ⟨A3, d3, u3, h3, ho3, hm3, hb3, hk3⟩ := hW.fin (hr' 15 (by decide))
      rw [hq13] at h3
      cases h3
      replace hm3 : u3 = #[.slice P p cp, .slice A3 (cutL xk j).length d3] := by injection hm3 with hm3; exact hm3.symm
      subst hm3
      obtain ⟨y0, y1, _, _⟩ := cell_head hb3
      have HO3 := Lib.hid ho3
      have HK3 := Lib.hid hk3
      clear hg hW hr' hq13 ho3 hk3 hb3 x0 x1
      go_wp2_with fail
      exact bodyPost_ret (v := .agg #[.slice P p cp, .slice A3 (cutL xk j).length d3]) (by simp [results, Try.results11, go_sem, y0, y1]) rfl ⟨⟨P, p, cp, A3, (cutL xk j).length, d3, ⟨xs, cutL xk j⟩⟩, rfl, HR.out.symm, ⟨HV.out.1.no (HKT.out _ HK3.out), RdI.of_own HO3.out⟩, HKT.out _ HK3.out⟩
    · go_wp2_with fail
      (try rw [hw1])
      rw [← HGB.out, ← HGX.out]
      rw [← HGX.out] at x0 x1
      refine wp_region_each (fun ix uR => match ix with | 0 => uR = .pointer (some ⟨gx, 0, none⟩) | 1 => uR = .slice P p cp | 3 => uR = .pointer (some ⟨gx, 1, none⟩) | 4 => uR = .slice (some ⟨b, o, none⟩) q cq | 5 => uR = .int .i64 (j : Nat) | 6 => uR = .slice (some ⟨b, o, none⟩) j cq | 8 => uR = .pointer (some ⟨gx, 1, none⟩) | 9 => uR = .slice (some ⟨b, o, none⟩) q cq | 10 => uR = .int .i64 (j : Nat) | 11 => uR = .int .i64 ((j : Int) + 1) | 12 => uR = .slice (some ⟨b, o + (j + 1), none⟩) (q - (j + 1)) (cq - (j + 1)) | _ => True) (fun r w' => LsW 2 7 13 14 gb w1 xk j (fun u => .agg #[.slice P p cp, u]) r w') (by kernel_rfl) (by kernel_rfl) (by kernel_rfl) ?_ ?_ ?_
      · exact LsW.start HB.out
      · refine ⟨?_, ?_, ?_, ?_, ?_, ?_, ?_, ?_, ?_, ?_, ?_, ?_, ?_, ?_, ?_, ?_, trivial⟩
        · intro r a w' hf hg hW hr hd K hK
          refine wpOp_of rfl rfl ?_
          have e0 : a.tmps.getD 2 undef = .pointer (some ⟨gx, 0, none⟩) := hf.evalFree (by kernel_rfl)
          go_simp
          exact hK _ _ rfl (hW.upd 0 _ (by decide) (by decide) (by decide) (by decide) (by decide))
        · intro r a w' hf hg hW hr hd K hK
          refine wpOp_of rfl rfl ?_
          refine hf.depE hg hd 0 30 (by kernel_rfl) fun u0 e0 g0 h0 => ?_
          replace g0 : u0 = .pointer (some ⟨gx, 0, none⟩) := g0
          subst g0
          have z0 := hW.k1.cell x0 HNE.out
          go_simp
          exact hK _ _ rfl (hW.upd 1 _ (by decide) (by decide) (by decide) (by decide) (by decide))
        · intro r a w' hf hg hW hr hd K hK
          refine wpOp_of rfl rfl ?_
          go_simp
          exact hK _ _ trivial (hW.putB (by decide) (by decide) (by decide) (by decide) hr)
        · intro r a w' hf hg hW hr hd K hK
          refine wpOp_of rfl rfl ?_
          have e0 : a.tmps.getD 2 undef = .pointer (some ⟨gx, 0, none⟩) := hf.evalFree (by kernel_rfl)
          go_simp
          exact hK _ _ rfl (hW.upd 3 _ (by decide) (by decide) (by decide) (by decide) (by decide))
        · intro r a w' hf hg hW hr hd K hK
          refine wpOp_of rfl rfl ?_
          refine hf.depE hg hd 3 33 (by kernel_rfl) fun u0 e0 g0 h0 => ?_
          replace g0 : u0 = .pointer (some ⟨gx, 1, none⟩) := g0
          subst g0
          have z0 := hW.k1.cell x1 HNE.out
          go_simp
          exact hK _ _ rfl (hW.upd 4 _ (by decide) (by decide) (by decide) (by decide) (by decide))
        · intro r a w' hf hg hW hr hd K hK
          refine wpOp_of rfl rfl ?_
          have e0 : a.tmps.getD 1 undef = .int .i64 (j : Nat) := hf.evalFree (by kernel_rfl)
          go_simp
          exact hK _ _ rfl (hW.upd 5 _ (by decide) (by decide) (by decide) (by decide) (by decide))
        · intro r a w' hf hg hW hr hd K hK
          refine wpOp_of rfl rfl ?_
          refine hf.depE hg hd 4 34 (by kernel_rfl) fun u0 e0 g0 h0 => ?_
          replace g0 : u0 = .slice (some ⟨b, o, none⟩) q cq := g0
          subst g0
          refine hf.depE hg hd 5 35 (by kernel_rfl) fun u1 e1 g1 h1 => ?_
          replace g1 : u1 = .int .i64 (j : Nat) := g1
          subst g1
          go_simp
          exact hK _ _ rfl (hW.upd 6 _ (by decide) (by decide) (by decide) (by decide) (by decide))
        · intro r a w' hf hg hW hr hd K hK
          refine wpOp_of rfl rfl ?_
          refine hf.depE hg hd 2 32 (by kernel_rfl) fun u0 e0 g0 h0 => ?_
          refine hf.depE hg hd 6 36 (by kernel_rfl) fun u1 e1 g1 h1 => ?_
          replace g1 : u1 = .slice (some ⟨b, o, none⟩) j cq := g1
          subst g1
          obtain ⟨gq, hq, ho⟩ := hW.c0 u0 h0 hr
          subst hq
          refine wpo_append_nil (.tmp 32) (.tmp 36) 23 rfl w1.heap.size 3 i0 _ 1 8 Try.underlying23 hi0 hz0 hz1 hz2 rfl (by decide) _ 0 [] e0 ho (some ⟨b, o, none⟩) j cq (((xk.take j).map Int.ofNat).map (Value.int .i64)) e1 HLT1.out (fun h => by cases h) (rdi_news (HT1.out.no (HKT.out _ hW.k1))) (ints_oneCell .i64 _) (by unfold maxLen; omega) (by omega) hW.k1.size (fun v' w'' ho2 hgr _ => ?_)
          rw [Nat.zero_add, List.nil_append] at ho2
          exact hK _ _ trivial (hW.putA1 (by decide) (by decide) (by decide) (by decide) hr (by rw [h0]; simp) ho HBL.out ho2 hgr)
        · intro r a w' hf hg hW hr hd K hK
          refine wpOp_of rfl rfl ?_
          have e0 : a.tmps.getD 2 undef = .pointer (some ⟨gx, 0, none⟩) := hf.evalFree (by kernel_rfl)
          go_simp
          exact hK _ _ rfl (hW.upd 8 _ (by decide) (by decide) (by decide) (by decide) (by decide))
        · intro r a w' hf hg hW hr hd K hK
          refine wpOp_of rfl rfl ?_
          refine hf.depE hg hd 8 38 (by kernel_rfl) fun u0 e0 g0 h0 => ?_
          replace g0 : u0 = .pointer (some ⟨gx, 1, none⟩) := g0
          subst g0
          have z0 := hW.k1.cell x1 HNE.out
          go_simp
          exact hK _ _ rfl (hW.upd 9 _ (by decide) (by decide) (by decide) (by decide) (by decide))
        · intro r a w' hf hg hW hr hd K hK
          refine wpOp_of rfl rfl ?_
          have e0 : a.tmps.getD 1 undef = .int .i64 (j : Nat) := hf.evalFree (by kernel_rfl)
          go_simp
          exact hK _ _ rfl (hW.upd 10 _ (by decide) (by decide) (by decide) (by decide) (by decide))
        · intro r a w' hf hg hW hr hd K hK
          refine wpOp_of rfl rfl ?_
          refine hf.depE hg hd 10 40 (by kernel_rfl) fun u0 e0 g0 h0 => ?_
          replace g0 : u0 = .int .i64 (j : Nat) := g0
          subst g0
          go_simp
          exact hK _ _ rfl (hW.upd 11 _ (by decide) (by decide) (by decide) (by decide) (by decide))
        · intro r a w' hf hg hW hr hd K hK
          refine wpOp_of rfl rfl ?_
          refine hf.depE hg hd 9 39 (by kernel_rfl) fun u0 e0 g0 h0 => ?_
          replace g0 : u0 = .slice (some ⟨b, o, none⟩) q cq := g0
          subst g0
          refine hf.depE hg hd 11 41 (by kernel_rfl) fun u1 e1 g1 h1 => ?_
          replace g1 : u1 = .int .i64 ((j : Int) + 1) := g1
          subst g1
          go_simp
          rw [if_pos (show 0 ≤ (j : Int) + 1 ∧ (j : Int) + 1 ≤ (q : Int) from ⟨by omega, by omega⟩)]
          exact hK _ _ rfl (hW.upd 12 _ (by decide) (by decide) (by decide) (by decide) (by decide))
        · intro r a w' hf hg hW hr hd K hK
          refine wpOp_of rfl rfl ?_
          refine hf.depE hg hd 7 37 (by kernel_rfl) fun u0 e0 g0 h0 => ?_
          refine hf.depE hg hd 12 42 (by kernel_rfl) fun u1 e1 g1 h1 => ?_
          replace g1 : u1 = .slice (some ⟨b, o + (j + 1), none⟩) (q - (j + 1)) (cq - (j + 1)) := g1
          subst g1
          have ho := hW.c1 u0 h0 hr
          refine wpo_append_nil (.tmp 37) (.tmp 42) 23 rfl w1.heap.size 3 i0 _ 1 8 Try.underlying23 hi0 hz0 hz1 hz2 rfl (by decide) u0 j _ e0 ho (some ⟨b, o + (j + 1), none⟩) (q - (j + 1)) (cq - (j + 1)) (((xk.drop (j + 1)).map Int.ofNat).map (Value.int .i64)) e1 HLT2.out (fun h => by cases h) (rdi_news (HT2.out.no (HKT.out _ hW.k1))) (ints_oneCell .i64 _) (by unfold maxLen; omega) (by omega) hW.k1.size (fun v' w'' ho2 hgr _ => ?_)
          obtain ⟨A3, d3, rfl, ho3⟩ := own_cut HL2.out HIP.out ho2
          exact hK _ _ trivial (hW.putA2 (by decide) (by decide) (by decide) (by decide) hr (by rw [h0]; simp) ho HBL.out A3 d3 ho3 hgr)
        · intro r a w' hf hg hW hr hd K hK
          refine wpOp_of rfl rfl ?_
          refine hf.depE hg hd 1 31 (by kernel_rfl) fun u0 e0 g0 h0 => ?_
          replace g0 : u0 = .slice P p cp := g0
          subst g0
          have e0' := get_of_getD e0
          refine hf.depE hg hd 13 43 (by kernel_rfl) fun u1 e1 g1 h1 => ?_
          have e1' := get_of_getD e1
          obtain ⟨A3, d3, hq, _⟩ := hW.c2 u1 h1
          subst hq
          go_simp
          exact hK _ _ trivial (hW.putBd (by decide) (by decide) (by decide) (by decide) hr h1)
        · intro r a w' hf hg hW hr hd K hK
          refine wpOp_of rfl rfl ?_
          have e0 : a.tmps.getD 4 undef = .pointer (some ⟨gb, 0, none⟩) := hf.evalFree (by kernel_rfl)
          refine hf.depE hg hd 14 44 (by kernel_rfl) fun u1 e1 g1 h1 => ?_
          obtain ⟨u2, hu2, hm⟩ := hW.c3 u1 h1
          obtain ⟨A3, d3, hq, _⟩ := hW.c2 u2 hu2
          subst hq
          subst hm
          have hbx := hW.bx hr
          obtain ⟨_, _, f0, f1⟩ := cell_head hbx
          go_simp
          exact hK undef _ trivial (hW.put15 (by decide) (by decide) (by decide) (by decide) HBL.out undef hu2 (by rw [h1]; simp) rfl ((kp_setOne _ _ _ _).tr (kp_setOne _ _ _ _)) (by simp [World.setCell, Array.getElem?_modify, hbx]))
      intro r' w2 hg hW hr'
      obtain ⟨q13, hq13⟩ : ∃ u, r' 13 = some u := Option.ne_none_iff_exists'.1 (hr' 13 (by decide))
      simp only [List.length_cons, List.length_nil, Nat.reduceAdd, List.range_succ, List.range_zero, List.nil_append, List.cons_append, List.map_cons, List.map_nil, putAll, Act.put, List.setIfInBounds_toArray, List.set_cons_succ, List.set_cons_zero, hq13, Option.getD_some]
      obtain ⟨A3, d3, u3, h3, ho3, hm3, hb3, hk3⟩ := hW.fin (hr' 15 (by decide))
      rw [hq13] at h3
      cases h3
      replace hm3 : u3 = #[.slice P p cp, .slice A3 (cutL xk j).length d3] := by injection hm3 with hm3; exact hm3.symm
      subst hm3
      obtain ⟨y0, y1, _, _⟩ := cell_head hb3
      have HO3 := Lib.hid ho3
      have HK3 := Lib.hid hk3
      clear hg hW hr' hq13 ho3 hk3 hb3 x0 x1
      go_wp2_with fail
      exact bodyPost_ret (v := .agg #[.slice P p cp, .slice A3 (cutL xk j).length d3]) (by simp [results, Try.results11, go_sem, y0, y1]) rfl ⟨⟨P, p, cp, A3, (cutL xk j).length, d3, ⟨xs, cutL xk j⟩⟩, rfl, HR.out.symm, ⟨HV.out.1.no (HKT.out _ HK3.out), RdI.of_own HO3.out⟩, HKT.out _ HK3.out⟩
end Go.Proofs.Ytpkbpeeelpgmcaa
