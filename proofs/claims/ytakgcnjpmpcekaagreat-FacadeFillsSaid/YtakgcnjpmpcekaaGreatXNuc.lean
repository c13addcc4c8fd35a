/- Spans of fractions: Scale: the walk. Printed by gen_nuc.py. -/
import Derived.Test.YtakgcnjpmpcekaaGreatXNucaM
namespace Go.Proofs.YtakgcnjpmpcekaaGreat
open Go.RowKit Go.Kq

theorem opSc (w0 : World) (u v : Value) (x y : Rat) (g : Nat) (hg : g ≤ w0.heap.size) (hu : IsQuo w0 u x 2) (hv : IsQuo w0 v y 5) : Calls Tryz.prog 45 #[u, v] w0 fun e w' => ∃ z, e = .returned (.tuple #[z, .int .i64 0]) ∧ QuoNew g w' z (x * y) 11 ∧ Kp No w0 w' := by
  refine (qmul_is u v x y 2 5 w0 hu hv (by omega)).mono ?_
  rintro e w' ⟨z, rfl, hz, hk⟩
  exact ⟨z, rfl, (hz.le (by omega)).mono hg, hk⟩
set_option maxHeartbeats 2000000 in
set_option maxRecDepth 100000 in
theorem scale_is (a : Int × Int) (num den : Int) (w : World) (hc : ckE [a] = 0) (hd : 1 ≤ den ∧ den ≤ 4611686018427387904) (hn : -4611686018427387904 ≤ num ∧ num ≤ 4611686018427387904) :
    Calls Tryz.prog 24 #[ivV a.1 a.2, .int .i64 num, .int .i64 den] w fun e w' => e = .returned (ieV (spanL [(a.1 : Rat) * ((num : Rat) / (den : Rat)), (a.2 : Rat) * ((num : Rat) / (den : Rat))])) ∧ Kp No w w' := by
  have CK := Lib.hid (fun w0 => check03_is a w0)
  have hfa := ck_fits hc a (by simp)
  rw [hc] at CK
  simp only [fits_in62] at hfa
  unfold in62 at hfa
  obtain ⟨al, ah⟩ := a
  simp only [decide_eq_true_eq] at hfa
  have OV := Lib.hid (fun w0 => over_is num den w0 (by omega) (by omega) (by omega))
  have QL := Lib.hid (fun w0 => quo_is al w0 (by omega))
  have QH := Lib.hid (fun w0 => quo_is ah w0 (by omega))
  obtain ⟨qq, hqq⟩ : ∃ q, q = (num : Rat) / (den : Rat) := ⟨_, rfl⟩
  obtain ⟨xl, hxl⟩ : ∃ q : Rat, q = (al : Rat) := ⟨_, rfl⟩
  obtain ⟨xh, hxh⟩ : ∃ q : Rat, q = (ah : Rat) := ⟨_, rfl⟩
  simp only [← hqq, ← hxl, ← hxh] at OV QL QH ⊢
  have SP := Lib.hid (fun (g c : Nat) w0 hq => span_is g 2 c [xl * qq, xh * qq] w0 rfl (by omega) hq)
  obtain ⟨⟨x1, x2, x3⟩, hsp⟩ : ∃ x, spanL [xl * qq, xh * qq] = x := ⟨_, rfl⟩
  rw [hsp] at SP ⊢
  have OPL := Lib.hid (fun w0 u v g hg hu hv => opSc w0 u v xl qq g hg hu hv)
  have OPH := Lib.hid (fun w0 u v g hg hu hv => opSc w0 u v xh qq g hg hu hv)
  simp only [ieV, ivV] at *
  clear hsp hqq hxl hxh hfa hc
  obtain ⟨h1, h2, KA⟩ := two_newQ w (.cells #[.int .i64 al, .int .i64 ah] 53) (.cells #[.int .i64 0, .int .i64 0] 53)
  replace h1 := Lib.hid h1
  replace h2 := Lib.hid h2
  replace KA := Lib.hid KA
  go_enter Tryz.func24, Tryz.ntmps24
  go_wp2_with fail
  refine (CK.out _).mono ?_
  rintro _ wb ⟨rfl, kb⟩
  have KB := Lib.hid (KA.out.tr kb)
  replace h1 := Lib.hid (kb.heap h1.out id)
  replace h2 := Lib.hid (kb.heap h2.out id)
  clear kb CK KA
  go_wp2_with fail
  refine (OV.out _).mono ?_
  rintro _ wc ⟨z, rfl, hz, kc⟩
  obtain ⟨n, d, rfl, hn, hd⟩ := hz
  obtain ⟨An, mn, cn, _, rfl, _⟩ := hn.1.pos
  obtain ⟨Ad, md, cd, _, rfl, _⟩ := hd.1.pos
  have KC := Lib.hid (KB.out.tr kc)
  have hka := Kp.alloc No wc (.cells #[.bool (negQ qq), .slice An mn cn, .slice Ad md cd] 89)
  have hs := at_newQ wc (.cells #[.bool (negQ qq), .slice An mn cn, .slice Ad md cd] 89)
  have HN := Lib.hid (hn.no hka)
  have HD := Lib.hid (hd.no hka)
  have KD := Lib.hid (KC.out.tr hka)
  replace h1 := Lib.hid ((kc.tr hka).heap h1.out id)
  replace h2 := Lib.hid ((kc.tr hka).heap h2.out id)
  clear OV hn hd kc hka KC
  go_wp2_with fail
  generalize wc.alloc (.cells #[.bool (negQ qq), .slice An mn cn, .slice Ad md cd] 89) = wd at *
  generalize wc.heap.size = g9 at *
  have QI := Lib.hid (show IsQuo wd (.agg #[.bool (negQ qq), .slice An mn cn, .slice Ad md cd]) qq 5 from ⟨_, _, rfl, HN.out.1, HD.out.1⟩)
  generalize negQ qq = sq at *
  obtain ⟨q0, q1, q2, _⟩ := three_cells hs
  obtain ⟨c0, c1, _⟩ := two_cells h1.out
  clear HN HD
  replace hs := Lib.hid hs
  have FS : Stab (fun ix wz u => (ix = 2 → QuoNew 0 wz u (xl) 2) ∧ (ix = 4 → TupQ wd.heap.size wz u (xl * qq) 11) ∧ (ix = 5 → TupQ wd.heap.size wz u (xl * qq) 11) ∧ (ix = 6 → QuoNew wd.heap.size wz u (xl * qq) 11) ∧ True) := fun ix u wz wz' kz h => ⟨fun e => QuoNew.no (h.1 e) kz, fun e => TupQ.no (h.2.1 e) kz, fun e => TupQ.no (h.2.2.1 e) kz, fun e => QuoNew.no (h.2.2.2.1 e) kz, trivial⟩
  have FB : ∀ (g : Nat) (wz wz' : World), Kp (Kq.One g) wz wz' → wz.heap[g]? = some (.cells #[.bool false, .slice none 0 0, .slice none 0 0] 89 (0, 0)) → ∀ (ix : Nat) (u : Value), ((fun ix wz u => (ix = 2 → QuoNew 0 wz u (xl) 2) ∧ (ix = 4 → TupQ wd.heap.size wz u (xl * qq) 11) ∧ (ix = 5 → TupQ wd.heap.size wz u (xl * qq) 11) ∧ (ix = 6 → QuoNew wd.heap.size wz u (xl * qq) 11) ∧ True : Nat → World → Value → Prop) ix wz u) → ((fun ix wz u => (ix = 2 → QuoNew 0 wz u (xl) 2) ∧ (ix = 4 → TupQ wd.heap.size wz u (xl * qq) 11) ∧ (ix = 5 → TupQ wd.heap.size wz u (xl * qq) 11) ∧ (ix = 6 → QuoNew wd.heap.size wz u (xl * qq) 11) ∧ True : Nat → World → Value → Prop) ix wz' u) := fun g wz wz' kz hz ix u h => ⟨fun e => QuoNew.kpZ (h.1 e) kz hz, fun e => TupQ.kpZ (h.2.1 e) kz hz, fun e => TupQ.kpZ (h.2.2.1 e) kz hz, fun e => QuoNew.kpZ (h.2.2.2.1 e) kz hz, trivial⟩
  replace FS := Lib.hid FS
  replace FB := Lib.hid FB
  refine wp_region_each (fun ix u => match ix with | 0 => u = .pointer (some ⟨w.heap.size, 0, none⟩) | 1 => u = .int .i64 al | 3 => u = .agg #[.bool sq, .slice An mn cn, .slice Ad md cd] | 7 => u = .int .i64 0 | 10 => u = .int .i64 0 | _ => True) (HvA wd 89 #[.bool false, .slice none 0 0, .slice none 0 0] 8 9 6 (fun ix wz u => (ix = 2 → QuoNew 0 wz u (xl) 2) ∧ (ix = 4 → TupQ wd.heap.size wz u (xl * qq) 11) ∧ (ix = 5 → TupQ wd.heap.size wz u (xl * qq) 11) ∧ (ix = 6 → QuoNew wd.heap.size wz u (xl * qq) 11) ∧ True)) (by kernel_rfl) (by kernel_rfl) (by kernel_rfl) ?_ ?_ ?_
  · exact HvA.start _ _ _ _ _ _ _
  · refine ⟨?_, ?_, ?_, ?_, ?_, ?_, ?_, ?_, ?_, ?_, ?_, trivial⟩
    · intro r a w' hf hg hW hr hd K hK
      refine wpOp_of rfl rfl ?_
      have e0 : a.tmps.getD 3 undef = .pointer (some ⟨w.heap.size, 0, none⟩) := hf.evalFree (by kernel_rfl)
      go_simp
      exact hK _ _ rfl (hW.upd 0 _ hr (by decide) (by decide) ⟨fun e => absurd e (by decide), fun e => absurd e (by decide), fun e => absurd e (by decide), fun e => absurd e (by decide), trivial⟩)
    · intro r a w' hf hg hW hr hd K hK
      refine wpOp_of rfl rfl ?_
      refine hf.depE hg hd 0 42 (by kernel_rfl) fun u0 e0 g0 h0 => ?_
      replace g0 : u0 = .pointer (some ⟨w.heap.size, 0, none⟩) := g0
      subst g0
      have z0 := hW.kp.cell c0 id
      go_simp
      exact hK _ _ rfl (hW.upd 1 _ hr (by decide) (by decide) ⟨fun e => absurd e (by decide), fun e => absurd e (by decide), fun e => absurd e (by decide), fun e => absurd e (by decide), trivial⟩)
    · intro r a w' hf hg hW hr hd K hK
      refine wpOp_of rfl rfl ?_
      refine hf.depE hg hd 1 43 (by kernel_rfl) fun u0 e0 g0 h0 => ?_
      replace g0 : u0 = .int .i64 al := g0
      subst g0
      go_simp
      with_reducible refine (QL.out _).mono ?_
      rintro e w'' ⟨z, rfl, hz, k⟩
      exact hK _ _ trivial ((hW.call FS.out k).upd 2 _ hr (by decide) (by decide) ⟨fun _ => hz.mono (Nat.zero_le _), fun e => absurd e (by decide), fun e => absurd e (by decide), fun e => absurd e (by decide), trivial⟩)
    · intro r a w' hf hg hW hr hd K hK
      refine wpOp_of rfl rfl ?_
      have e0 : a.tmps.getD 9 undef = .pointer (some ⟨g9, 0, none⟩) := hf.evalFree (by kernel_rfl)
      have z0 := hW.kp.cell q0 id
      have z1 := hW.kp.cell q1 id
      have z2 := hW.kp.cell q2 id
      go_simp
      exact hK _ _ rfl (hW.upd 3 _ hr (by decide) (by decide) ⟨fun e => absurd e (by decide), fun e => absurd e (by decide), fun e => absurd e (by decide), fun e => absurd e (by decide), trivial⟩)
    · intro r a w' hf hg hW hr hd K hK
      refine wpOp_of rfl rfl ?_
      refine hf.depE hg hd 2 44 (by kernel_rfl) fun u0 e0 g0 h0 => ?_
      have f0 := (hW.hv 2 u0 h0).1 rfl
      refine hf.depE hg hd 3 45 (by kernel_rfl) fun u1 e1 g1 h1 => ?_
      replace g1 : u1 = .agg #[.bool sq, .slice An mn cn, .slice Ad md cd] := g1
      subst g1
      go_simp
      with_reducible refine (OPL.out _ _ _ _ hW.kp.size f0.is (QI.out.no hW.kp)).mono ?_
      rintro e w'' ⟨z, rfl, hz, k⟩
      exact hK _ _ trivial ((hW.call FS.out k).upd 4 _ hr (by decide) (by decide) ⟨fun e => absurd e (by decide), fun _ => ⟨z, rfl, hz⟩, fun e => absurd e (by decide), fun e => absurd e (by decide), trivial⟩)
    · intro r a w' hf hg hW hr hd K hK
      refine wpOp_of rfl rfl ?_
      refine hf.depE hg hd 4 46 (by kernel_rfl) fun u0 e0 g0 h0 => ?_
      have f0 := (hW.hv 4 u0 h0).2.1 rfl
      go_simp
      exact hK _ _ trivial (hW.upd 5 _ hr (by decide) (by decide) ⟨fun e => absurd e (by decide), fun e => absurd e (by decide), fun _ => f0, fun e => absurd e (by decide), trivial⟩)
    · intro r a w' hf hg hW hr hd K hK
      refine wpOp_of rfl rfl ?_
      refine hf.depE hg hd 5 41 (by kernel_rfl) fun u0 e0 g0 h0 => ?_
      have f0 := (hW.hv 5 u0 h0).2.2.1 rfl
      obtain ⟨z, rfl, hz⟩ := f0
      go_simp
      exact hK _ _ trivial (hW.upd 6 _ hr (by decide) (by decide) ⟨fun e => absurd e (by decide), fun e => absurd e (by decide), fun e => absurd e (by decide), fun _ => hz, trivial⟩)
    · intro r a w' hf hg hW hr hd K hK
      refine wpOp_of rfl rfl ?_
      refine hf.depE hg hd 5 41 (by kernel_rfl) fun u0 e0 g0 h0 => ?_
      have f0 := (hW.hv 5 u0 h0).2.2.1 rfl
      obtain ⟨z, rfl, hz⟩ := f0
      go_simp
      exact hK _ _ rfl (hW.upd 7 _ hr (by decide) (by decide) ⟨fun e => absurd e (by decide), fun e => absurd e (by decide), fun e => absurd e (by decide), fun e => absurd e (by decide), trivial⟩)
    · intro r a w' hf hg hW hr hd K hK
      refine wpOp_of rfl rfl ?_
      go_simp
      exact hK _ _ trivial (hW.alloc FS.out hr (by decide) ⟨fun e => absurd e (by decide), fun e => absurd e (by decide), fun e => absurd e (by decide), fun e => absurd e (by decide), trivial⟩)
    · intro r a w' hf hg hW hr hd K hK
      refine wpOp_of rfl rfl ?_
      refine hf.depE hg hd 8 10 (by kernel_rfl) fun u0 e0 g0 h0 => ?_
      refine hf.depE hg hd 6 47 (by kernel_rfl) fun u1 e1 g1 h1 => ?_
      have f1 := (hW.hv 6 u1 h1).2.2.2.1 rfl
      obtain ⟨n, d, rfl, hn, hd⟩ := f1
      obtain ⟨An, mn, cn, _, rfl, _⟩ := hn.1.pos
      obtain ⟨Ad, md, cd, _, rfl, _⟩ := hd.1.pos
      obtain ⟨g0, rfl, hg0, hh0⟩ := hW.b0 hr _ h0
      obtain ⟨x0, x1, x2, y0, y1, y2⟩ := three_cells hh0
      go_simp
      exact hK undef _ trivial (hW.store h0 hg0 (FB.out _ _ _ (kp_setQ _ _ _ _ _) hh0) (by decide) (by decide) h1 (kp_setQ _ _ _ _ _) (setQ_at hh0 _ _ _) _ ⟨fun e => absurd e (by decide), fun e => absurd e (by decide), fun e => absurd e (by decide), fun e => absurd e (by decide), trivial⟩)
    · intro r a w' hf hg hW hr hd K hK
      refine wpOp_of rfl rfl ?_
      refine hf.depE hg hd 7 48 (by kernel_rfl) fun u0 e0 g0 h0 => ?_
      replace g0 : u0 = .int .i64 0 := g0
      subst g0
      go_simp
      exact hK _ _ rfl (hW.upd 10 _ hr (by decide) (by decide) ⟨fun e => absurd e (by decide), fun e => absurd e (by decide), fun e => absurd e (by decide), fun e => absurd e (by decide), trivial⟩)
  intro r' we hg hW hr'
  have hkN := hW.kp
  obtain ⟨q6, hq6⟩ : ∃ u, r' 6 = some u := Option.ne_none_iff_exists'.1 (hr' 6 (by decide))
  have hF6 := (hW.hv 6 q6 hq6).2.2.2.1 rfl
  obtain ⟨q7, hq7⟩ : ∃ u, r' 7 = some u := Option.ne_none_iff_exists'.1 (hr' 7 (by decide))
  have hk7 := hg 7 q7 hq7
  replace hk7 : q7 = .int .i64 0 := hk7
  subst hk7
  obtain ⟨g0, cs, hg0, hl0, hcs, hB⟩ := hW.b1 (hr' 9 (by decide))
  simp only [List.length_cons, List.length_nil, Nat.reduceAdd, List.range_succ, List.range_zero, List.nil_append, List.cons_append, List.map_cons, List.map_nil, putAll, Act.put, List.setIfInBounds_toArray, List.set_cons_succ, List.set_cons_zero, hq6, hq7, hg0, Option.getD_some]
  clear hg hW hr' FS FB hg0 hq7
  rw [hq6] at hcs
  injection hcs with hcs
  subst hcs
  obtain ⟨n1, d1, e, hn1, hd1⟩ := hF6
  injection e with e
  subst e
  obtain ⟨An1, mn1, cn1, _, rfl, _⟩ := hn1.1.pos
  obtain ⟨Ad1, md1, cd1, _, rfl, _⟩ := hd1.1.pos
  replace QI := Lib.hid (QI.out.no hkN)
  replace h1 := Lib.hid (hkN.heap h1.out id)
  replace h2 := Lib.hid (hkN.heap h2.out id)
  replace hs := hkN.heap hs.out id
  have KE := Lib.hid (KD.out.tr hkN)
  have HNL := Lib.hid hn1.1
  have HDL := Lib.hid hd1.1
  have HBL := Lib.hid hB
  clear c0 c1 q0 q1 q2 hkN hn1 hd1 hB KD OPL QL
  generalize g0 = gL at *
  have hlL := Lib.hid hl0
  clear hl0
  obtain ⟨q0, q1, q2, _⟩ := three_cells hs
  obtain ⟨c0, c1, _⟩ := two_cells h1.out
  replace hs := Lib.hid hs
  go_wp2_with fail
  have FS : Stab (fun ix wz u => (ix = 2 → QuoNew 0 wz u (xh) 2) ∧ (ix = 4 → TupQ we.heap.size wz u (xh * qq) 11) ∧ (ix = 5 → TupQ we.heap.size wz u (xh * qq) 11) ∧ (ix = 6 → QuoNew we.heap.size wz u (xh * qq) 11) ∧ True) := fun ix u wz wz' kz h => ⟨fun e => QuoNew.no (h.1 e) kz, fun e => TupQ.no (h.2.1 e) kz, fun e => TupQ.no (h.2.2.1 e) kz, fun e => QuoNew.no (h.2.2.2.1 e) kz, trivial⟩
  have FB : ∀ (g : Nat) (wz wz' : World), Kp (Kq.One g) wz wz' → wz.heap[g]? = some (.cells #[.bool false, .slice none 0 0, .slice none 0 0] 89 (0, 0)) → ∀ (ix : Nat) (u : Value), ((fun ix wz u => (ix = 2 → QuoNew 0 wz u (xh) 2) ∧ (ix = 4 → TupQ we.heap.size wz u (xh * qq) 11) ∧ (ix = 5 → TupQ we.heap.size wz u (xh * qq) 11) ∧ (ix = 6 → QuoNew we.heap.size wz u (xh * qq) 11) ∧ True : Nat → World → Value → Prop) ix wz u) → ((fun ix wz u => (ix = 2 → QuoNew 0 wz u (xh) 2) ∧ (ix = 4 → TupQ we.heap.size wz u (xh * qq) 11) ∧ (ix = 5 → TupQ we.heap.size wz u (xh * qq) 11) ∧ (ix = 6 → QuoNew we.heap.size wz u (xh * qq) 11) ∧ True : Nat → World → Value → Prop) ix wz' u) := fun g wz wz' kz hz ix u h => ⟨fun e => QuoNew.kpZ (h.1 e) kz hz, fun e => TupQ.kpZ (h.2.1 e) kz hz, fun e => TupQ.kpZ (h.2.2.1 e) kz hz, fun e => QuoNew.kpZ (h.2.2.2.1 e) kz hz, trivial⟩
  replace FS := Lib.hid FS
  replace FB := Lib.hid FB
  refine wp_region_each (fun ix u => match ix with | 0 => u = .pointer (some ⟨w.heap.size, 1, none⟩) | 1 => u = .int .i64 ah | 3 => u = .agg #[.bool sq, .slice An mn cn, .slice Ad md cd] | 7 => u = .int .i64 0 | 10 => u = .int .i64 0 | _ => True) (HvA we 89 #[.bool false, .slice none 0 0, .slice none 0 0] 8 9 6 (fun ix wz u => (ix = 2 → QuoNew 0 wz u (xh) 2) ∧ (ix = 4 → TupQ we.heap.size wz u (xh * qq) 11) ∧ (ix = 5 → TupQ we.heap.size wz u (xh * qq) 11) ∧ (ix = 6 → QuoNew we.heap.size wz u (xh * qq) 11) ∧ True)) (by kernel_rfl) (by kernel_rfl) (by kernel_rfl) ?_ ?_ ?_
  · exact HvA.start _ _ _ _ _ _ _
  · refine ⟨?_, ?_, ?_, ?_, ?_, ?_, ?_, ?_, ?_, ?_, ?_, trivial⟩
    · intro r a w' hf hg hW hr hd K hK
      refine wpOp_of rfl rfl ?_
      have e0 : a.tmps.getD 3 undef = .pointer (some ⟨w.heap.size, 0, none⟩) := hf.evalFree (by kernel_rfl)
      go_simp
      exact hK _ _ rfl (hW.upd 0 _ hr (by decide) (by decide) ⟨fun e => absurd e (by decide), fun e => absurd e (by decide), fun e => absurd e (by decide), fun e => absurd e (by decide), trivial⟩)
    · intro r a w' hf hg hW hr hd K hK
      refine wpOp_of rfl rfl ?_
      refine hf.depE hg hd 0 50 (by kernel_rfl) fun u0 e0 g0 h0 => ?_
      replace g0 : u0 = .pointer (some ⟨w.heap.size, 1, none⟩) := g0
      subst g0
      have z0 := hW.kp.cell c1 id
      go_simp
      exact hK _ _ rfl (hW.upd 1 _ hr (by decide) (by decide) ⟨fun e => absurd e (by decide), fun e => absurd e (by decide), fun e => absurd e (by decide), fun e => absurd e (by decide), trivial⟩)
    · intro r a w' hf hg hW hr hd K hK
      refine wpOp_of rfl rfl ?_
      refine hf.depE hg hd 1 51 (by kernel_rfl) fun u0 e0 g0 h0 => ?_
      replace g0 : u0 = .int .i64 ah := g0
      subst g0
      go_simp
      with_reducible refine (QH.out _).mono ?_
      rintro e w'' ⟨z, rfl, hz, k⟩
      exact hK _ _ trivial ((hW.call FS.out k).upd 2 _ hr (by decide) (by decide) ⟨fun _ => hz.mono (Nat.zero_le _), fun e => absurd e (by decide), fun e => absurd e (by decide), fun e => absurd e (by decide), trivial⟩)
    · intro r a w' hf hg hW hr hd K hK
      refine wpOp_of rfl rfl ?_
      have e0 : a.tmps.getD 9 undef = .pointer (some ⟨g9, 0, none⟩) := hf.evalFree (by kernel_rfl)
      have z0 := hW.kp.cell q0 id
      have z1 := hW.kp.cell q1 id
      have z2 := hW.kp.cell q2 id
      go_simp
      exact hK _ _ rfl (hW.upd 3 _ hr (by decide) (by decide) ⟨fun e => absurd e (by decide), fun e => absurd e (by decide), fun e => absurd e (by decide), fun e => absurd e (by decide), trivial⟩)
    · intro r a w' hf hg hW hr hd K hK
      refine wpOp_of rfl rfl ?_
      refine hf.depE hg hd 2 52 (by kernel_rfl) fun u0 e0 g0 h0 => ?_
      have f0 := (hW.hv 2 u0 h0).1 rfl
      refine hf.depE hg hd 3 53 (by kernel_rfl) fun u1 e1 g1 h1 => ?_
      replace g1 : u1 = .agg #[.bool sq, .slice An mn cn, .slice Ad md cd] := g1
      subst g1
      go_simp
      with_reducible refine (OPH.out _ _ _ _ hW.kp.size f0.is (QI.out.no hW.kp)).mono ?_
      rintro e w'' ⟨z, rfl, hz, k⟩
      exact hK _ _ trivial ((hW.call FS.out k).upd 4 _ hr (by decide) (by decide) ⟨fun e => absurd e (by decide), fun _ => ⟨z, rfl, hz⟩, fun e => absurd e (by decide), fun e => absurd e (by decide), trivial⟩)
    · intro r a w' hf hg hW hr hd K hK
      refine wpOp_of rfl rfl ?_
      refine hf.depE hg hd 4 54 (by kernel_rfl) fun u0 e0 g0 h0 => ?_
      have f0 := (hW.hv 4 u0 h0).2.1 rfl
      go_simp
      exact hK _ _ trivial (hW.upd 5 _ hr (by decide) (by decide) ⟨fun e => absurd e (by decide), fun e => absurd e (by decide), fun _ => f0, fun e => absurd e (by decide), trivial⟩)
    · intro r a w' hf hg hW hr hd K hK
      refine wpOp_of rfl rfl ?_
      refine hf.depE hg hd 5 49 (by kernel_rfl) fun u0 e0 g0 h0 => ?_
      have f0 := (hW.hv 5 u0 h0).2.2.1 rfl
      obtain ⟨z, rfl, hz⟩ := f0
      go_simp
      exact hK _ _ trivial (hW.upd 6 _ hr (by decide) (by decide) ⟨fun e => absurd e (by decide), fun e => absurd e (by decide), fun e => absurd e (by decide), fun _ => hz, trivial⟩)
    · intro r a w' hf hg hW hr hd K hK
      refine wpOp_of rfl rfl ?_
      refine hf.depE hg hd 5 49 (by kernel_rfl) fun u0 e0 g0 h0 => ?_
      have f0 := (hW.hv 5 u0 h0).2.2.1 rfl
      obtain ⟨z, rfl, hz⟩ := f0
      go_simp
      exact hK _ _ rfl (hW.upd 7 _ hr (by decide) (by decide) ⟨fun e => absurd e (by decide), fun e => absurd e (by decide), fun e => absurd e (by decide), fun e => absurd e (by decide), trivial⟩)
    · intro r a w' hf hg hW hr hd K hK
      refine wpOp_of rfl rfl ?_
      go_simp
      exact hK _ _ trivial (hW.alloc FS.out hr (by decide) ⟨fun e => absurd e (by decide), fun e => absurd e (by decide), fun e => absurd e (by decide), fun e => absurd e (by decide), trivial⟩)
    · intro r a w' hf hg hW hr hd K hK
      refine wpOp_of rfl rfl ?_
      refine hf.depE hg hd 8 12 (by kernel_rfl) fun u0 e0 g0 h0 => ?_
      refine hf.depE hg hd 6 55 (by kernel_rfl) fun u1 e1 g1 h1 => ?_
      have f1 := (hW.hv 6 u1 h1).2.2.2.1 rfl
      obtain ⟨n, d, rfl, hn, hd⟩ := f1
      obtain ⟨An, mn, cn, _, rfl, _⟩ := hn.1.pos
      obtain ⟨Ad, md, cd, _, rfl, _⟩ := hd.1.pos
      obtain ⟨g0, rfl, hg0, hh0⟩ := hW.b0 hr _ h0
      obtain ⟨x0, x1, x2, y0, y1, y2⟩ := three_cells hh0
      go_simp
      exact hK undef _ trivial (hW.store h0 hg0 (FB.out _ _ _ (kp_setQ _ _ _ _ _) hh0) (by decide) (by decide) h1 (kp_setQ _ _ _ _ _) (setQ_at hh0 _ _ _) _ ⟨fun e => absurd e (by decide), fun e => absurd e (by decide), fun e => absurd e (by decide), fun e => absurd e (by decide), trivial⟩)
    · intro r a w' hf hg hW hr hd K hK
      refine wpOp_of rfl rfl ?_
      refine hf.depE hg hd 7 56 (by kernel_rfl) fun u0 e0 g0 h0 => ?_
      replace g0 : u0 = .int .i64 0 := g0
      subst g0
      go_simp
      exact hK _ _ rfl (hW.upd 10 _ hr (by decide) (by decide) ⟨fun e => absurd e (by decide), fun e => absurd e (by decide), fun e => absurd e (by decide), fun e => absurd e (by decide), trivial⟩)
  intro r' wf hg hW hr'
  have hkN := hW.kp
  obtain ⟨q6, hq6⟩ : ∃ u, r' 6 = some u := Option.ne_none_iff_exists'.1 (hr' 6 (by decide))
  have hF6 := (hW.hv 6 q6 hq6).2.2.2.1 rfl
  obtain ⟨q7, hq7⟩ : ∃ u, r' 7 = some u := Option.ne_none_iff_exists'.1 (hr' 7 (by decide))
  have hk7 := hg 7 q7 hq7
  replace hk7 : q7 = .int .i64 0 := hk7
  subst hk7
  obtain ⟨g0, cs, hg0, hl0, hcs, hB⟩ := hW.b1 (hr' 9 (by decide))
  simp only [List.length_cons, List.length_nil, Nat.reduceAdd, List.range_succ, List.range_zero, List.nil_append, List.cons_append, List.map_cons, List.map_nil, putAll, Act.put, List.setIfInBounds_toArray, List.set_cons_succ, List.set_cons_zero, hq6, hq7, hg0, Option.getD_some]
  clear hg hW hr' FS FB hg0 hq7
  rw [hq6] at hcs
  injection hcs with hcs
  subst hcs
  obtain ⟨n2, d2, e, hn2, hd2⟩ := hF6
  injection e with e
  subst e
  obtain ⟨An2, mn2, cn2, _, rfl, _⟩ := hn2.1.pos
  obtain ⟨Ad2, md2, cd2, _, rfl, _⟩ := hd2.1.pos
  obtain ⟨a0, a1, a2, _⟩ := three_cells (hkN.heap HBL.out id)
  obtain ⟨b0, b1, b2, _⟩ := three_cells hB
  have ka := Kp.alloc No wf (.cells #[.bool (negQ (xl * qq)), .slice An1 mn1 cn1, .slice Ad1 md1 cd1, .bool (negQ (xh * qq)), .slice An2 mn2 cn2, .slice Ad2 md2 cd2] 89)
  have KF := Lib.hid ((KE.out.tr hkN).tr ka)
  have QA := Lib.hid (qatk_two (t := 89) (heap_alloc_new wf _) rfl rfl ⟨_, _, rfl, (HNL.out.no hkN).no ka, (HDL.out.no hkN).no ka⟩ ⟨_, _, rfl, hn2.1.no ka, hd2.1.no ka⟩)
  replace h2 := Lib.hid ((hkN.tr ka).heap h2.out id)
  clear hn2 hd2 hkN ka hB hs h1 c0 c1 q0 q1 q2 HNL HDL HBL QI KE OPH QH
  go_wp2_with fail
  refine (SP.out _ _ _ (QA.out.le (by omega))).mono ?_
  rintro _ wg ⟨rfl, kg⟩
  have KG := Lib.hid (KF.out.tr kg)
  have hr := kg.heap h2.out id
  obtain ⟨r0, r1, z0, z1⟩ := two_cells hr
  clear kg
  replace hr := Lib.hid hr
  go_wp2_with fail
  have hs := setI_at hr.out (.int .i64 x1) (.int .i64 x2)
  obtain ⟨v0, v1, _, _⟩ := two_cells hs
  exact bodyPost_ret (v := .tuple #[.agg #[.int .i64 x1, .int .i64 x2], .int .i64 x3]) (by simp [results, Tryz.results24, go_sem, v0, v1]) rfl ⟨rfl, kp_set2 KG.out (by omega)⟩
end Go.Proofs.YtakgcnjpmpcekaaGreat
