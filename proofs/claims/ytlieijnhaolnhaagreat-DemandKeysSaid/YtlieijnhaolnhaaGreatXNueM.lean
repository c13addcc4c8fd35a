/- As LibHv's HvS (one store into a box), with a chain of what comes behind what, so that reads of the box lie ahead of the store. No program in sight. · Spans of fractions: Disc: the walk. Printed by gen_nue.py. -/
import Derived.Test.YtlieijnhaolnhaaGreatXLibHxM
import Derived.Test.YtlieijnhaolnhaaGreatXNud
namespace Go.Kq
open Go.RowKit

structure HvT (base : World) (B : Nat) (t : TypeId) (zero : Array Value) (st src : Nat) (ch : List (Nat × Nat)) (F : Nat → World → Value → Prop) (r : Nat → Option Value) (w : World) : Prop where
  s : HvS base B t zero st src F r w
  bl : ∀ p ∈ ch, r p.1 ≠ none → r p.2 ≠ none
section
variable {base w w' : World} {B : Nat} {t : TypeId} {zero : Array Value} {st src : Nat} {ch : List (Nat × Nat)} {F : Nat → World → Value → Prop} {r : Nat → Option Value}
theorem HvT.kp (h : HvT base B t zero st src ch F r w) : Kp (One B) base w := h.s.kp
theorem HvT.b0 (h : HvT base B t zero st src ch F r w) (e : r st = none) : w.heap[B]? = some (.cells zero t (0, 0)) := h.s.b0 e
theorem HvT.b1 (h : HvT base B t zero st src ch F r w) (e : r st ≠ none) : ∃ cs, r src = some (.agg cs) ∧ w.heap[B]? = some (.cells cs t (0, 0)) := h.s.b1 e
theorem HvT.hv (h : HvT base B t zero st src ch F r w) : ∀ i u, r i = some u → F i w u := h.s.hv
theorem HvT.start (h : base.heap[B]? = some (.cells zero t (0, 0))) : HvT base B t zero st src ch F (fun _ => none) base.drew := ⟨HvS.start h, fun _ _ h => absurd rfl h⟩
theorem HvT.back (h : HvT base B t zero st src ch F r w) (x : Nat) {y : Nat} (hp : (x, y) ∈ ch) (hy : r y = none) : r x = none :=
  Classical.byContradiction fun e => h.bl _ hp e hy
theorem HvT.updL (h : HvT base B t zero st src ch F r w) (i : Nat) (v : Value) (hr : r i = none) (hi : i ≠ st) (hc : ∀ p ∈ ch, p.1 = i → r p.2 ≠ none) (hf : F i w v) : HvT base B t zero st src ch F (Kq.upd r i v) w :=
  ⟨h.s.upd i v hr hi hf, chain_upd h.bl hc⟩
theorem HvT.upd (h : HvT base B t zero st src ch F r w) (i : Nat) (v : Value) (hr : r i = none) (hi : i ≠ st) (hc : ∀ p ∈ ch, p.1 ≠ i) (hf : F i w v) : HvT base B t zero st src ch F (Kq.upd r i v) w :=
  h.updL i v hr hi (fun p hp e => absurd e (hc p hp)) hf
theorem HvT.call (h : HvT base B t zero st src ch F r w) (hF : Stab F) (k : Kp No w w') : HvT base B t zero st src ch F r w' := ⟨h.s.call hF k, h.bl⟩
theorem HvT.store (h : HvT base B t zero st src ch F r w) (hF : ∀ i u w w', Kp (One B) w w' → F i w u → F i w' u) (hne : src ≠ st) {cs : Array Value} (hu : r src = some (.agg cs)) (hc : ∀ p ∈ ch, p.1 = st → r p.2 ≠ none) (hk : Kp (One B) w w') (hh : w'.heap[B]? = some (.cells cs t (0, 0))) (v : Value) (hf : F st w' v) :
    HvT base B t zero st src ch F (Kq.upd r st v) w' := ⟨h.s.store hF hne hu hk hh v hf, chain_upd h.bl hc⟩
end
end Go.Kq

namespace Go.Proofs.YtlieijnhaolnhaaGreat
open Go.RowKit Go.Kq

theorem opQr (w0 : World) (u v : Value) (x y : Rat) (g : Nat) (hg : g ≤ w0.heap.size) (hu : IsQuo w0 u x 8) (hv : IsQuo w0 v y 5) : Calls Tryz.prog 70 #[u, v] w0 fun e w' => ∃ z, e = .returned (.tuple #[z, .int .i64 0]) ∧ QuoNew g w' z (x * y) 14 ∧ Kp No w0 w' := by
  refine (qmul_is u v x y 8 5 w0 hu hv (by omega)).mono ?_
  rintro e w' ⟨z, rfl, hz, hk⟩
  exact ⟨z, rfl, hz.mono hg, hk⟩
def quart : Rat := ((1 : Int) : Rat) / ((4 : Int) : Rat)
set_option maxHeartbeats 4000000 in
set_option maxRecDepth 100000 in
theorem disc_is (a : Int × Int) (w : World) (hc : ckE [a] = 0) (h0 : 0 ≤ a.1) :
    Calls Tryz.prog 33 #[ivV a.1 a.2] w fun e w' => e = .returned (ieV (spanL (pisL [(a.1 : Rat) * (a.1 : Rat) * quart, (a.2 : Rat) * (a.2 : Rat) * quart]))) ∧ Kp No w w' := by
  have CK := Lib.hid (fun w0 => check03_is a w0)
  have hfa := ck_fits hc a (by simp)
  rw [hc] at CK
  simp only [fits_in62] at hfa
  unfold in62 at hfa
  obtain ⟨al, ah⟩ := a
  simp only [decide_eq_true_eq] at hfa
  have OV := Lib.hid (fun w0 => show Calls Tryz.prog 69 #[.int .i64 1, .int .i64 4] w0 fun e w' => ∃ z, e = .returned z ∧ QuoNew w0.heap.size w' z quart 5 ∧ Kp No w0 w' from over_is 1 4 w0 (by omega) (by omega) (by omega))
  have QL := Lib.hid (fun w0 => quo_is al w0 (by omega))
  have QH := Lib.hid (fun w0 => quo_is ah w0 (by omega))
  generalize quart = qq at *
  obtain ⟨xl, hxl⟩ : ∃ q : Rat, q = (al : Rat) := ⟨_, rfl⟩
  obtain ⟨xh, hxh⟩ : ∃ q : Rat, q = (ah : Rat) := ⟨_, rfl⟩
  simp only [← hxl, ← hxh] at QL QH ⊢
  have SQL := Lib.hid (fun w0 u (hu : IsQuo w0 u xl 2) => qsq_is u xl 2 w0 hu (by omega))
  have SQH := Lib.hid (fun w0 u (hu : IsQuo w0 u xh 2) => qsq_is u xh 2 w0 hu (by omega))
  generalize xl * xl = yl at *
  generalize xh * xh = yh at *
  have OPL := Lib.hid (fun w0 u v g hg hu hv => opQr w0 u v yl qq g hg hu hv)
  have OPH := Lib.hid (fun w0 u v g hg hu hv => opQr w0 u v yh qq g hg hu hv)
  generalize yl * qq = zl at *
  generalize yh * qq = zh at *
  have PI := Lib.hid (fun (g c : Nat) w0 hq => pis_is g 2 c [zl, zh] w0 rfl (by omega) (by omega) hq)
  have SP := Lib.hid (fun (g c : Nat) w0 hq => span_is g 4 c (pisL [zl, zh]) w0 rfl (by omega) hq)
  obtain ⟨⟨x1, x2, x3⟩, hsp⟩ : ∃ x, spanL (pisL [zl, zh]) = x := ⟨_, rfl⟩
  rw [hsp] at SP ⊢
  simp only [ieV, ivV] at *
  generalize pisL [zl, zh] = PL at *
  clear hsp hxl hxh hfa hc
  obtain ⟨h1, h2, KA⟩ := two_newQ w (.cells #[.int .i64 al, .int .i64 ah] 25) (.cells #[.int .i64 0, .int .i64 0] 25)
  replace h1 := Lib.hid h1
  replace h2 := Lib.hid h2
  replace KA := Lib.hid KA
  go_enter Tryz.func33, Tryz.ntmps33
  go_wp2_with fail
  refine (CK.out _).mono ?_
  rintro _ wb ⟨rfl, kb⟩
  have KB := Lib.hid (KA.out.tr kb)
  replace h1 := kb.heap h1.out id
  replace h2 := Lib.hid (kb.heap h2.out id)
  obtain ⟨c0, c1, _⟩ := two_cells h1
  clear kb CK KA
  replace h1 := Lib.hid h1
  go_wp2_with fail
  refine (QL.out _).mono ?_
  rintro _ wc ⟨u, rfl, hu, kc⟩
  have HU := Lib.hid hu.is
  have KC := Lib.hid (KB.out.tr kc)
  replace h1 := kc.heap h1.out id
  replace h2 := Lib.hid (kc.heap h2.out id)
  clear c0 c1 hu kc KB QL
  replace h1 := Lib.hid h1
  go_wp2_with fail
  refine (SQL.out _ _ HU.out).mono ?_
  rintro _ wd ⟨z, rfl, hz, kd⟩
  obtain ⟨n, d, rfl, hn, hd⟩ := hz
  obtain ⟨An, mn, cn, _, rfl, _⟩ := hn.pos
  obtain ⟨Ad, md, cd, _, rfl, _⟩ := hd.pos
  have ka := Kp.alloc No wd (.cells #[.bool (negQ yl), .slice An mn cn, .slice Ad md cd] 94)
  have k2 := kd.tr ka
  have KD := Lib.hid (KC.out.tr k2)
  have hX := Lib.hid (at_newQ wd (.cells #[.bool (negQ yl), .slice An mn cn, .slice Ad md cd] 94))
  have QX := Lib.hid (show IsQuo _ (.agg #[.bool (negQ yl), .slice An mn cn, .slice Ad md cd]) yl 8 from ⟨_, _, rfl, hn.no ka, hd.no ka⟩)
  replace h1 := k2.heap h1.out id
  have h2b := h2
  replace h2 := Lib.hid (k2.heap h2.out id)
  obtain ⟨c0, c1, _⟩ := two_cells h1
  have hlx := Lib.hid (show w.heap.size + 1 < wd.heap.size from (Array.getElem?_eq_some_iff.1 (kd.heap h2b.out id)).1)
  clear hn hd kd ka k2 KC SQL HU h2b
  replace h1 := Lib.hid h1
  go_wp2_with fail
  generalize wd.alloc (.cells #[.bool (negQ yl), .slice An mn cn, .slice Ad md cd] 94) = we at *
  generalize wd.heap.size = gX at *
  refine (QH.out _).mono ?_
  rintro _ wf ⟨u, rfl, hu, kf⟩
  have HU := Lib.hid hu.is
  have KF := Lib.hid (KD.out.tr kf)
  replace h1 := kf.heap h1.out id
  replace h2 := Lib.hid (kf.heap h2.out id)
  replace hX := Lib.hid (kf.heap hX.out id)
  replace QX := Lib.hid (QX.out.no kf)
  clear c0 c1 hu kf KD QH
  go_wp2_with fail
  refine (SQH.out _ _ HU.out).mono ?_
  rintro _ wg ⟨z, rfl, hz, kg⟩
  obtain ⟨n, d, rfl, hn, hd⟩ := hz
  obtain ⟨Bn, on, pn, _, rfl, _⟩ := hn.pos
  obtain ⟨Bd, od, pd, _, rfl, _⟩ := hd.pos
  have ka := Kp.alloc No wg (.cells #[.bool (negQ yh), .slice Bn on pn, .slice Bd od pd] 94)
  have k2 := kg.tr ka
  have KG := Lib.hid (KF.out.tr k2)
  have hY := Lib.hid (at_newQ wg (.cells #[.bool (negQ yh), .slice Bn on pn, .slice Bd od pd] 94))
  have QY := Lib.hid (show IsQuo _ (.agg #[.bool (negQ yh), .slice Bn on pn, .slice Bd od pd]) yh 8 from ⟨_, _, rfl, hn.no ka, hd.no ka⟩)
  replace h2 := Lib.hid (k2.heap h2.out id)
  have hlz := Lib.hid (show gX < wg.heap.size from (Array.getElem?_eq_some_iff.1 (kg.heap hX.out id)).1)
  have hlW := Lib.hid (show wg.heap.size < (wg.alloc (.cells #[.bool (negQ yh), .slice Bn on pn, .slice Bd od pd] 94)).heap.size by simp)
  replace hX := Lib.hid (k2.heap hX.out id)
  replace QX := Lib.hid (QX.out.no k2)
  clear h1 hn hd kg ka k2 KF SQH HU
  go_wp2_with fail
  generalize wg.alloc (.cells #[.bool (negQ yh), .slice Bn on pn, .slice Bd od pd] 94) = wh at *
  generalize wg.heap.size = gY at *
  generalize negQ yl = sl at *
  generalize negQ yh = sh at *
  have HBX := Lib.hid (show gX < wh.heap.size from Nat.lt_trans hlz.out hlW.out)
  have FS : Stab (fun ix wz u => (ix = 1 → QuoNew wh.heap.size wz u (qq) 5) ∧ (ix = 2 → TupQ wh.heap.size wz u (zl) 14) ∧ (ix = 3 → TupQ wh.heap.size wz u (zl) 14) ∧ (ix = 4 → QuoNew wh.heap.size wz u (zl) 14) ∧ True) := fun ix u wz wz' kz h => ⟨fun e => QuoNew.no (h.1 e) kz, fun e => TupQ.no (h.2.1 e) kz, fun e => TupQ.no (h.2.2.1 e) kz, fun e => QuoNew.no (h.2.2.2.1 e) kz, trivial⟩
  have FB : ∀ (ix : Nat) (u : Value) (wz wz' : World), Kp (Kq.One (gX)) wz wz' → ((fun ix wz u => (ix = 1 → QuoNew wh.heap.size wz u (qq) 5) ∧ (ix = 2 → TupQ wh.heap.size wz u (zl) 14) ∧ (ix = 3 → TupQ wh.heap.size wz u (zl) 14) ∧ (ix = 4 → QuoNew wh.heap.size wz u (zl) 14) ∧ True : Nat → World → Value → Prop) ix wz u) → ((fun ix wz u => (ix = 1 → QuoNew wh.heap.size wz u (qq) 5) ∧ (ix = 2 → TupQ wh.heap.size wz u (zl) 14) ∧ (ix = 3 → TupQ wh.heap.size wz u (zl) 14) ∧ (ix = 4 → QuoNew wh.heap.size wz u (zl) 14) ∧ True : Nat → World → Value → Prop) ix wz' u) := fun ix u wz wz' kz h => ⟨fun e => (fun h0 kz0 => QuoNew.kp h0 kz0 HBX.out) (h.1 e) kz, fun e => (fun h0 kz0 => TupQ.kp h0 kz0 HBX.out) (h.2.1 e) kz, fun e => (fun h0 kz0 => TupQ.kp h0 kz0 HBX.out) (h.2.2.1 e) kz, fun e => (fun h0 kz0 => QuoNew.kp h0 kz0 HBX.out) (h.2.2.2.1 e) kz, trivial⟩
  replace FS := Lib.hid FS
  replace FB := Lib.hid FB
  refine wp_region_each (fun ix u => match ix with | 0 => u = .agg #[.bool sl, .slice An mn cn, .slice Ad md cd] | 5 => u = .int .i64 0 | _ => True) (HvT wh (gX) 94 #[.bool sl, .slice An mn cn, .slice Ad md cd] 6 4 [(6, 4), (4, 3), (3, 2), (2, 0)] (fun ix wz u => (ix = 1 → QuoNew wh.heap.size wz u (qq) 5) ∧ (ix = 2 → TupQ wh.heap.size wz u (zl) 14) ∧ (ix = 3 → TupQ wh.heap.size wz u (zl) 14) ∧ (ix = 4 → QuoNew wh.heap.size wz u (zl) 14) ∧ True)) (by kernel_rfl) (by kernel_rfl) (by kernel_rfl) ?_ ?_ ?_
  · exact HvT.start hX.out
  · refine ⟨?_, ?_, ?_, ?_, ?_, ?_, ?_, trivial⟩
    · intro r a w' hf hg hW hr hd K hK
      refine wpOp_of rfl rfl ?_
      have e0 : a.tmps.getD 5 undef = .pointer (some ⟨gX, 0, none⟩) := hf.evalFree (by kernel_rfl)
      have f2 := hW.back 2 (by decide) hr
      have f3 := hW.back 3 (by decide) f2
      have f4 := hW.back 4 (by decide) f3
      have f6 := hW.back 6 (by decide) f4
      obtain ⟨x0, x1, x2, _⟩ := three_cells (hW.b0 f6)
      go_simp
      exact hK _ _ rfl (hW.upd 0 _ hr (by decide) (by decide) ⟨fun e => absurd e (by decide), fun e => absurd e (by decide), fun e => absurd e (by decide), fun e => absurd e (by decide), trivial⟩)
    · intro r a w' hf hg hW hr hd K hK
      refine wpOp_of rfl rfl ?_
      go_simp
      with_reducible refine (OV.out _).mono ?_
      rintro e w'' ⟨z, rfl, hz, k⟩
      exact hK _ _ trivial ((hW.call FS.out k).upd 1 _ hr (by decide) (by decide) ⟨fun _ => hz.mono hW.kp.size, fun e => absurd e (by decide), fun e => absurd e (by decide), fun e => absurd e (by decide), trivial⟩)
    · intro r a w' hf hg hW hr hd K hK
      refine wpOp_of rfl rfl ?_
      refine hf.depE hg hd 0 37 (by kernel_rfl) fun u0 e0 g0 h0 => ?_
      replace g0 : u0 = .agg #[.bool sl, .slice An mn cn, .slice Ad md cd] := g0
      subst g0
      refine hf.depE hg hd 1 38 (by kernel_rfl) fun u1 e1 g1 h1 => ?_
      have f1 := (hW.hv 1 u1 h1).1 rfl
      go_simp
      with_reducible refine (OPL.out _ _ _ _ hW.kp.size (QX.out.kpZ hW.kp hX.out) f1.is).mono ?_
      rintro e w'' ⟨z, rfl, hz, k⟩
      exact hK _ _ trivial ((hW.call FS.out k).updL 2 _ hr (by decide) (fun p hp e => by simp only [List.mem_cons, List.not_mem_nil, or_false] at hp; rcases hp with rfl | rfl | rfl | rfl <;> first | (exact absurd e (by decide)) | (rw [h0]; exact fun h => by cases h)) ⟨fun e => absurd e (by decide), fun _ => ⟨z, rfl, hz⟩, fun e => absurd e (by decide), fun e => absurd e (by decide), trivial⟩)
    · intro r a w' hf hg hW hr hd K hK
      refine wpOp_of rfl rfl ?_
      refine hf.depE hg hd 2 39 (by kernel_rfl) fun u0 e0 g0 h0 => ?_
      have f0 := (hW.hv 2 u0 h0).2.1 rfl
      go_simp
      exact hK _ _ trivial (hW.updL 3 _ hr (by decide) (fun p hp e => by simp only [List.mem_cons, List.not_mem_nil, or_false] at hp; rcases hp with rfl | rfl | rfl | rfl <;> first | (exact absurd e (by decide)) | (rw [h0]; exact fun h => by cases h)) ⟨fun e => absurd e (by decide), fun e => absurd e (by decide), fun _ => f0, fun e => absurd e (by decide), trivial⟩)
    · intro r a w' hf hg hW hr hd K hK
      refine wpOp_of rfl rfl ?_
      refine hf.depE hg hd 3 36 (by kernel_rfl) fun u0 e0 g0 h0 => ?_
      have f0 := (hW.hv 3 u0 h0).2.2.1 rfl
      obtain ⟨z, rfl, hz⟩ := f0
      go_simp
      exact hK _ _ trivial (hW.updL 4 _ hr (by decide) (fun p hp e => by simp only [List.mem_cons, List.not_mem_nil, or_false] at hp; rcases hp with rfl | rfl | rfl | rfl <;> first | (exact absurd e (by decide)) | (rw [h0]; exact fun h => by cases h)) ⟨fun e => absurd e (by decide), fun e => absurd e (by decide), fun e => absurd e (by decide), fun _ => hz, trivial⟩)
    · intro r a w' hf hg hW hr hd K hK
      refine wpOp_of rfl rfl ?_
      refine hf.depE hg hd 3 36 (by kernel_rfl) fun u0 e0 g0 h0 => ?_
      have f0 := (hW.hv 3 u0 h0).2.2.1 rfl
      obtain ⟨z, rfl, hz⟩ := f0
      go_simp
      exact hK _ _ rfl (hW.upd 5 _ hr (by decide) (by decide) ⟨fun e => absurd e (by decide), fun e => absurd e (by decide), fun e => absurd e (by decide), fun e => absurd e (by decide), trivial⟩)
    · intro r a w' hf hg hW hr hd K hK
      refine wpOp_of rfl rfl ?_
      have e0 : a.tmps.getD 5 undef = .pointer (some ⟨gX, 0, none⟩) := hf.evalFree (by kernel_rfl)
      refine hf.depE hg hd 4 40 (by kernel_rfl) fun u1 e1 g1 h1 => ?_
      have f1 := (hW.hv 4 u1 h1).2.2.2.1 rfl
      obtain ⟨n, d, rfl, hn, hd⟩ := f1
      obtain ⟨An0, mn0, cn0, _, rfl, _⟩ := hn.1.pos
      obtain ⟨Ad0, md0, cd0, _, rfl, _⟩ := hd.1.pos
      obtain ⟨x0, x1, x2, y0, y1, y2⟩ := three_cells (hW.b0 hr)
      go_simp
      exact hK undef _ trivial (hW.store FB.out (by decide) h1 (fun p hp e => by simp only [List.mem_cons, List.not_mem_nil, or_false] at hp; rcases hp with rfl | rfl | rfl | rfl <;> first | (exact absurd e (by decide)) | (rw [h1]; exact fun h => by cases h)) (kp_setQ _ _ _ _ _) (setQ_at (hW.b0 hr) _ _ _) _ ⟨fun e => absurd e (by decide), fun e => absurd e (by decide), fun e => absurd e (by decide), fun e => absurd e (by decide), trivial⟩)
  intro r' wi hg hW hr'
  have hkN := hW.kp
  obtain ⟨q4, hq4⟩ : ∃ u, r' 4 = some u := Option.ne_none_iff_exists'.1 (hr' 4 (by decide))
  have hF4 := (hW.hv 4 q4 hq4).2.2.2.1 rfl
  obtain ⟨q5, hq5⟩ : ∃ u, r' 5 = some u := Option.ne_none_iff_exists'.1 (hr' 5 (by decide))
  have hk5 := hg 5 q5 hq5
  replace hk5 : q5 = .int .i64 0 := hk5
  subst hk5
  obtain ⟨cs, hcs, hB⟩ := hW.b1 (hr' 6 (by decide))
  simp only [List.length_cons, List.length_nil, Nat.reduceAdd, List.range_succ, List.range_zero, List.nil_append, List.cons_append, List.map_cons, List.map_nil, putAll, Act.put, List.setIfInBounds_toArray, List.set_cons_succ, List.set_cons_zero, hq4, hq5, Option.getD_some]
  clear hg hW hr' FS FB hq5
  rw [hq4] at hcs
  injection hcs with hcs
  subst hcs
  obtain ⟨n1, d1, e, hn1, hd1⟩ := hF4
  injection e with e
  subst e
  obtain ⟨An1, mn1, cn1, _, rfl, _⟩ := hn1.1.pos
  obtain ⟨Ad1, md1, cd1, _, rfl, _⟩ := hd1.1.pos
  replace h2 := Lib.hid (hkN.heap h2.out (fun e => by unfold Kq.One at e; have := hlx.out; omega))
  replace hY := Lib.hid (hkN.heap hY.out (fun e => by unfold Kq.One at e; have := hlz.out; omega))
  replace QY := Lib.hid (QY.out.kpZ hkN hX.out)
  have KI := Lib.hid (KG.out.trans hkN (fun k hk e => by unfold Kq.One at e; have := hlx.out; omega))
  have HBY := Lib.hid (show gY < wi.heap.size from Nat.lt_of_lt_of_le hlW.out hkN.size)
  have HNL := Lib.hid hn1
  have HDL := Lib.hid hd1
  have HBL := Lib.hid hB
  clear hkN hn1 hd1 hB KG QX hX OPL HBX
  go_wp2_with fail
  have FS : Stab (fun ix wz u => (ix = 1 → QuoNew wi.heap.size wz u (qq) 5) ∧ (ix = 2 → TupQ wi.heap.size wz u (zh) 14) ∧ (ix = 3 → TupQ wi.heap.size wz u (zh) 14) ∧ (ix = 4 → QuoNew wi.heap.size wz u (zh) 14) ∧ True) := fun ix u wz wz' kz h => ⟨fun e => QuoNew.no (h.1 e) kz, fun e => TupQ.no (h.2.1 e) kz, fun e => TupQ.no (h.2.2.1 e) kz, fun e => QuoNew.no (h.2.2.2.1 e) kz, trivial⟩
  have FB : ∀ (ix : Nat) (u : Value) (wz wz' : World), Kp (Kq.One (gY)) wz wz' → ((fun ix wz u => (ix = 1 → QuoNew wi.heap.size wz u (qq) 5) ∧ (ix = 2 → TupQ wi.heap.size wz u (zh) 14) ∧ (ix = 3 → TupQ wi.heap.size wz u (zh) 14) ∧ (ix = 4 → QuoNew wi.heap.size wz u (zh) 14) ∧ True : Nat → World → Value → Prop) ix wz u) → ((fun ix wz u => (ix = 1 → QuoNew wi.heap.size wz u (qq) 5) ∧ (ix = 2 → TupQ wi.heap.size wz u (zh) 14) ∧ (ix = 3 → TupQ wi.heap.size wz u (zh) 14) ∧ (ix = 4 → QuoNew wi.heap.size wz u (zh) 14) ∧ True : Nat → World → Value → Prop) ix wz' u) := fun ix u wz wz' kz h => ⟨fun e => (fun h0 kz0 => QuoNew.kp h0 kz0 HBY.out) (h.1 e) kz, fun e => (fun h0 kz0 => TupQ.kp h0 kz0 HBY.out) (h.2.1 e) kz, fun e => (fun h0 kz0 => TupQ.kp h0 kz0 HBY.out) (h.2.2.1 e) kz, fun e => (fun h0 kz0 => QuoNew.kp h0 kz0 HBY.out) (h.2.2.2.1 e) kz, trivial⟩
  replace FS := Lib.hid FS
  replace FB := Lib.hid FB
  refine wp_region_each (fun ix u => match ix with | 0 => u = .agg #[.bool sh, .slice Bn on pn, .slice Bd od pd] | 5 => u = .int .i64 0 | _ => True) (HvT wi (gY) 94 #[.bool sh, .slice Bn on pn, .slice Bd od pd] 6 4 [(6, 4), (4, 3), (3, 2), (2, 0)] (fun ix wz u => (ix = 1 → QuoNew wi.heap.size wz u (qq) 5) ∧ (ix = 2 → TupQ wi.heap.size wz u (zh) 14) ∧ (ix = 3 → TupQ wi.heap.size wz u (zh) 14) ∧ (ix = 4 → QuoNew wi.heap.size wz u (zh) 14) ∧ True)) (by kernel_rfl) (by kernel_rfl) (by kernel_rfl) ?_ ?_ ?_
  · exact HvT.start hY.out
  · refine ⟨?_, ?_, ?_, ?_, ?_, ?_, ?_, trivial⟩
    · intro r a w' hf hg hW hr hd K hK
      refine wpOp_of rfl rfl ?_
      have e0 : a.tmps.getD 7 undef = .pointer (some ⟨gY, 0, none⟩) := hf.evalFree (by kernel_rfl)
      have f2 := hW.back 2 (by decide) hr
      have f3 := hW.back 3 (by decide) f2
      have f4 := hW.back 4 (by decide) f3
      have f6 := hW.back 6 (by decide) f4
      obtain ⟨x0, x1, x2, _⟩ := three_cells (hW.b0 f6)
      go_simp
      exact hK _ _ rfl (hW.upd 0 _ hr (by decide) (by decide) ⟨fun e => absurd e (by decide), fun e => absurd e (by decide), fun e => absurd e (by decide), fun e => absurd e (by decide), trivial⟩)
    · intro r a w' hf hg hW hr hd K hK
      refine wpOp_of rfl rfl ?_
      go_simp
      with_reducible refine (OV.out _).mono ?_
      rintro e w'' ⟨z, rfl, hz, k⟩
      exact hK _ _ trivial ((hW.call FS.out k).upd 1 _ hr (by decide) (by decide) ⟨fun _ => hz.mono hW.kp.size, fun e => absurd e (by decide), fun e => absurd e (by decide), fun e => absurd e (by decide), trivial⟩)
    · intro r a w' hf hg hW hr hd K hK
      refine wpOp_of rfl rfl ?_
      refine hf.depE hg hd 0 43 (by kernel_rfl) fun u0 e0 g0 h0 => ?_
      replace g0 : u0 = .agg #[.bool sh, .slice Bn on pn, .slice Bd od pd] := g0
      subst g0
      refine hf.depE hg hd 1 44 (by kernel_rfl) fun u1 e1 g1 h1 => ?_
      have f1 := (hW.hv 1 u1 h1).1 rfl
      go_simp
      with_reducible refine (OPH.out _ _ _ _ hW.kp.size (QY.out.kpZ hW.kp hY.out) f1.is).mono ?_
      rintro e w'' ⟨z, rfl, hz, k⟩
      exact hK _ _ trivial ((hW.call FS.out k).updL 2 _ hr (by decide) (fun p hp e => by simp only [List.mem_cons, List.not_mem_nil, or_false] at hp; rcases hp with rfl | rfl | rfl | rfl <;> first | (exact absurd e (by decide)) | (rw [h0]; exact fun h => by cases h)) ⟨fun e => absurd e (by decide), fun _ => ⟨z, rfl, hz⟩, fun e => absurd e (by decide), fun e => absurd e (by decide), trivial⟩)
    · intro r a w' hf hg hW hr hd K hK
      refine wpOp_of rfl rfl ?_
      refine hf.depE hg hd 2 45 (by kernel_rfl) fun u0 e0 g0 h0 => ?_
      have f0 := (hW.hv 2 u0 h0).2.1 rfl
      go_simp
      exact hK _ _ trivial (hW.updL 3 _ hr (by decide) (fun p hp e => by simp only [List.mem_cons, List.not_mem_nil, or_false] at hp; rcases hp with rfl | rfl | rfl | rfl <;> first | (exact absurd e (by decide)) | (rw [h0]; exact fun h => by cases h)) ⟨fun e => absurd e (by decide), fun e => absurd e (by decide), fun _ => f0, fun e => absurd e (by decide), trivial⟩)
    · intro r a w' hf hg hW hr hd K hK
      refine wpOp_of rfl rfl ?_
      refine hf.depE hg hd 3 42 (by kernel_rfl) fun u0 e0 g0 h0 => ?_
      have f0 := (hW.hv 3 u0 h0).2.2.1 rfl
      obtain ⟨z, rfl, hz⟩ := f0
      go_simp
      exact hK _ _ trivial (hW.updL 4 _ hr (by decide) (fun p hp e => by simp only [List.mem_cons, List.not_mem_nil, or_false] at hp; rcases hp with rfl | rfl | rfl | rfl <;> first | (exact absurd e (by decide)) | (rw [h0]; exact fun h => by cases h)) ⟨fun e => absurd e (by decide), fun e => absurd e (by decide), fun e => absurd e (by decide), fun _ => hz, trivial⟩)
    · intro r a w' hf hg hW hr hd K hK
      refine wpOp_of rfl rfl ?_
      refine hf.depE hg hd 3 42 (by kernel_rfl) fun u0 e0 g0 h0 => ?_
      have f0 := (hW.hv 3 u0 h0).2.2.1 rfl
      obtain ⟨z, rfl, hz⟩ := f0
      go_simp
      exact hK _ _ rfl (hW.upd 5 _ hr (by decide) (by decide) ⟨fun e => absurd e (by decide), fun e => absurd e (by decide), fun e => absurd e (by decide), fun e => absurd e (by decide), trivial⟩)
    · intro r a w' hf hg hW hr hd K hK
      refine wpOp_of rfl rfl ?_
      have e0 : a.tmps.getD 7 undef = .pointer (some ⟨gY, 0, none⟩) := hf.evalFree (by kernel_rfl)
      refine hf.depE hg hd 4 46 (by kernel_rfl) fun u1 e1 g1 h1 => ?_
      have f1 := (hW.hv 4 u1 h1).2.2.2.1 rfl
      obtain ⟨n, d, rfl, hn, hd⟩ := f1
      obtain ⟨An0, mn0, cn0, _, rfl, _⟩ := hn.1.pos
      obtain ⟨Ad0, md0, cd0, _, rfl, _⟩ := hd.1.pos
      obtain ⟨x0, x1, x2, y0, y1, y2⟩ := three_cells (hW.b0 hr)
      go_simp
      exact hK undef _ trivial (hW.store FB.out (by decide) h1 (fun p hp e => by simp only [List.mem_cons, List.not_mem_nil, or_false] at hp; rcases hp with rfl | rfl | rfl | rfl <;> first | (exact absurd e (by decide)) | (rw [h1]; exact fun h => by cases h)) (kp_setQ _ _ _ _ _) (setQ_at (hW.b0 hr) _ _ _) _ ⟨fun e => absurd e (by decide), fun e => absurd e (by decide), fun e => absurd e (by decide), fun e => absurd e (by decide), trivial⟩)
  intro r' wj hg hW hr'
  have hkN := hW.kp
  obtain ⟨q4, hq4⟩ : ∃ u, r' 4 = some u := Option.ne_none_iff_exists'.1 (hr' 4 (by decide))
  have hF4 := (hW.hv 4 q4 hq4).2.2.2.1 rfl
  obtain ⟨q5, hq5⟩ : ∃ u, r' 5 = some u := Option.ne_none_iff_exists'.1 (hr' 5 (by decide))
  have hk5 := hg 5 q5 hq5
  replace hk5 : q5 = .int .i64 0 := hk5
  subst hk5
  obtain ⟨cs, hcs, hB⟩ := hW.b1 (hr' 6 (by decide))
  simp only [List.length_cons, List.length_nil, Nat.reduceAdd, List.range_succ, List.range_zero, List.nil_append, List.cons_append, List.map_cons, List.map_nil, putAll, Act.put, List.setIfInBounds_toArray, List.set_cons_succ, List.set_cons_zero, hq4, hq5, Option.getD_some]
  clear hg hW hr' FS FB hq5
  rw [hq4] at hcs
  injection hcs with hcs
  subst hcs
  obtain ⟨n2, d2, e, hn2, hd2⟩ := hF4
  injection e with e
  subst e
  obtain ⟨An2, mn2, cn2, _, rfl, _⟩ := hn2.1.pos
  obtain ⟨Ad2, md2, cd2, _, rfl, _⟩ := hd2.1.pos
  obtain ⟨a0, a1, a2, _⟩ := three_cells (hkN.heap HBL.out (fun e => by unfold Kq.One at e; have := hlz.out; omega))
  obtain ⟨b0, b1, b2, _⟩ := three_cells hB
  have ka := Kp.alloc No wj (.cells #[.bool (negQ zl), .slice An1 mn1 cn1, .slice Ad1 md1 cd1, .bool (negQ zh), .slice An2 mn2 cn2, .slice Ad2 md2 cd2] 94)
  have KF := Lib.hid ((KI.out.trans hkN (fun k hk e => by unfold Kq.One at e; have := hlx.out; have := hlz.out; omega)).tr ka)
  have QA := Lib.hid (qatk_two (t := 94) (heap_alloc_new wj _) rfl rfl ⟨_, _, rfl, (HNL.out.kp hkN hlW.out).1.no ka, (HDL.out.kp hkN hlW.out).1.no ka⟩ ⟨_, _, rfl, hn2.1.no ka, hd2.1.no ka⟩)
  replace h2 := Lib.hid (ka.heap (hkN.heap h2.out (fun e => by unfold Kq.One at e; have := hlx.out; have := hlz.out; omega)) id)
  clear hn2 hd2 hkN ka hB HNL HDL HBL QY hY KI OPH HBY OV
  go_wp2_with fail
  refine (PI.out _ _ _ QA.out).mono ?_
  rintro _ wk ⟨g, c, rfl, hq, kk⟩
  have SP2 := Lib.hid (SP.out g c wk (hq.le (by omega)))
  have KK := Lib.hid (KF.out.tr kk)
  replace h2 := Lib.hid (kk.heap h2.out id)
  clear hq kk QA PI SP a0 a1 a2 b0 b1 b2
  go_wp2_with fail
  refine SP2.out.mono ?_
  rintro _ wl ⟨rfl, kl⟩
  have KL := Lib.hid (KK.out.tr kl)
  have hr := kl.heap h2.out id
  obtain ⟨r0, r1, z0, z1⟩ := two_cells hr
  clear kl
  replace hr := Lib.hid hr
  go_wp2_with fail
  have hs := setI_at hr.out (.int .i64 x1) (.int .i64 x2)
  obtain ⟨v0, v1, _, _⟩ := two_cells hs
  exact bodyPost_ret (v := .tuple #[.agg #[.int .i64 x1, .int .i64 x2], .int .i64 x3]) (by simp [results, Tryz.results33, go_sem, v0, v1]) rfl ⟨rfl, kp_set2 KL.out (by omega)⟩
end Go.Proofs.YtlieijnhaolnhaaGreat
