/- Chapter 13: the reference's Pipe: the walk. · Chapter 13: the reference's Pipe and Drop at all inputs: walks. -/
import Derived.Test.YtlieijnhaolnhaaGreatXRpiPM
import Derived.Test.YtlieijnhaolnhaaGreatXDrp
namespace Go.Proofs.YtlieijnhaolnhaaGreat
open Go.RowKit Go.Kq

theorem kp_setI (w : World) (B : Nat) (a b : Value) : Kp (Kq.One B) w ((w.setCell ⟨B, 0, none⟩ a).setCell ⟨B, 1, none⟩ b) :=
  (Kp.setCell (Kq.One B) w ⟨B, 0, none⟩ _ (fun _ => rfl)).tr (Kp.setCell (Kq.One B) _ ⟨B, 1, none⟩ _ (fun _ => rfl))
def IvR (x1 x2 x3 : Int) (w : World) (e : Ending) (w' : World) : Prop := e = .returned (.tuple #[.agg #[.int .i64 x1, .int .i64 x2], .int .i64 x3]) ∧ Kp No w w'
theorem st_scale {b f p : Int} (hp : 0 ≤ p ∧ p ≤ 5000) (w : World) : Calls Tryz.prog 30 #[.agg #[.int .i64 p, .int .i64 p], .int .i64 5000000000000, .int .i64 3] w (IvR (plo p) (phi p) 0 w) := by
  have hb := plo_bd hp.1 hp.2
  have h := scale_is (p, p) 5000000000000 3 w (ck_one13 (by omega) (by omega) (by omega)) (by omega) (by omega)
  rw [scale_span (Int.le_refl p) (by omega) (by omega), show rnd false (p * 5000000000000) 3 = plo p from rfl, show rnd true (p * 5000000000000) 3 = phi p from rfl, spanE_ok (by omega) hb.2.1 (by omega)] at h
  exact h
theorem st_root {p : Int} (hp : 0 ≤ p ∧ p ≤ 5000) (w : World) : Calls Tryz.prog 32 #[.agg #[.int .i64 (plo p), .int .i64 (phi p)], .int .i64 2] w (IvR (vlo p) (vhi p) 0 w) := by
  have hb := plo_bd hp.1 hp.2
  refine (root03_is (plo p, phi p) w (ck_one13 (by omega) hb.2.1 (by omega)) hb.1).mono ?_
  rintro e w' ⟨⟨r, s, h1, h2, h3, h4, rfl⟩, hk⟩
  obtain rfl := isq_unique h1 h2
  obtain rfl := isq_unique h3 h4
  exact ⟨rfl, hk⟩
theorem st_disc {b : Int} (hb : 0 ≤ b ∧ b ≤ 100000) (w : World) : Calls Tryz.prog 33 #[.agg #[.int .i64 b, .int .i64 b]] w (IvR (dlo b) (dhi b) 0 w) := by
  have h := disc_is (b, b) w (ck_one13 (by omega) (by omega) (by omega)) hb.1
  have h1 := dlo_nn hb.1
  have h2 := dlo_dhi hb.1
  have h3 := dhi_le hb.1 hb.2
  rw [disc_span, spanE_ok (by omega) h2 (by omega)] at h
  exact h
theorem st_mul {b p : Int} (hb : 0 ≤ b ∧ b ≤ 100000) (hp : 0 ≤ p ∧ p ≤ 5000) (w : World) : Calls Tryz.prog 34 #[.agg #[.int .i64 (dlo b), .int .i64 (dhi b)], .agg #[.int .i64 (vlo p), .int .i64 (vhi p)]] w (IvR (dlo b * vlo p) (dhi b * vhi p) 0 w) := by
  have h := Mul03_is (dlo b, dhi b) (vlo p, vhi p) w
  have h1 := dlo_nn hb.1
  have h2 := dlo_dhi hb.1
  have h3 := dhi_le hb.1 hb.2
  have v1 := vlo_nn p
  have v2 := (vlo_vhi hp.1).1
  have v3 := vhi_le hp.1 hp.2
  have m := prod_bd hb.1 hb.2 hp.1 hp.2
  rw [mul_span (ck_one13 (by omega) h2 (by omega)) (ck_one13 (by omega) v2 (by omega)) h1 v1, spanE_ok (by have := m.1; show -4611686018427387904 ≤ dlo b * vlo p; omega) m.2.1 m.2.2] at h
  exact h
theorem st_flow {b f p : Int} (hb : 0 ≤ b ∧ b ≤ 100000) (hf : 0 ≤ f ∧ f ≤ 1000) (hp : 0 ≤ p ∧ p ≤ 5000) (w : World) : Calls Tryz.prog 30 #[.agg #[.int .i64 (dlo b * vlo p), .int .i64 (dhi b * vhi p)], .int .i64 f, .int .i64 1000000000000] w (IvR (tlo b f p) (thi b f p) 0 w) := by
  have m := prod_bd hb.1 hb.2 hp.1 hp.2
  have t1 := tlo_nn (p := p) hb.1 hf.1
  have t2 := tlo_thi hb.1 hf.1 hp.1
  have t3 := thi_le hb.1 hb.2 hf.1 hf.2 hp.1 hp.2
  have h := scale_is (dlo b * vlo p, dhi b * vhi p) f 1000000000000 w (ck_one13 (by omega) m.2.1 m.2.2) (by omega) (by omega)
  rw [scale_span m.2.1 hf.1 (by omega), show rnd false (dlo b * vlo p * f) 1000000000000 = tlo b f p from rfl, show rnd true (dhi b * vhi p * f) 1000000000000 = thi b f p from rfl, spanE_ok (by omega) t2 (by omega)] at h
  exact h
set_option maxHeartbeats 2000000 in
set_option maxRecDepth 100000 in
theorem rpipe_ok (b f p : Int) (w : World) (h : toeB b f = true ∧ preB p = true) : Calls Tryz.prog 9 #[toeV b f, .int .i64 p] w (IvR (tlo b f p) (thi b f p) 0 w) := by
  have hb := toeB_of h.1
  have hp : 10 ≤ p ∧ p ≤ 5000 := by
    have := h.2
    unfold preB at this
    simp at this
    omega
  have TO := Lib.hid (fun w0 => toe13_is b f w0)
  have PR := Lib.hid (fun w0 => pressure13_is p w0)
  rw [h.1] at TO
  rw [h.2] at PR
  have OP := Lib.hid (fun w0 => one13_is p w0)
  have OB := Lib.hid (fun w0 => one13_is b w0)
  have S1 := Lib.hid (fun w0 => st_scale (b := b) (f := f) (p := p) (by omega) w0)
  have RO := Lib.hid (fun w0 => st_root (p := p) (by omega) w0)
  have DI := Lib.hid (fun w0 => st_disc (b := b) (by omega) w0)
  have MU := Lib.hid (fun w0 => st_mul (b := b) (p := p) (by omega) (by omega) w0)
  have S2 := Lib.hid (fun w0 => st_flow (b := b) (f := f) (p := p) (by omega) (by omega) (by omega) w0)
  generalize dlo b * vlo p = ml at *
  generalize dhi b * vhi p = mh at *
  generalize plo p = pl at *
  generalize phi p = ph at *
  generalize vlo p = vl at *
  generalize vhi p = vh at *
  generalize dlo b = dl at *
  generalize dhi b = dh at *
  generalize tlo b f p = tl at *
  generalize thi b f p = th at *
  clear h hb hp
  simp only [toeV] at *
  obtain ⟨h1, h2, KA⟩ := two_newQ w (.cells #[.int .i64 b, .int .i64 f] 23) (.cells #[.int .i64 0, .int .i64 0] 25)
  replace h1 := Lib.hid h1
  replace h2 := Lib.hid h2
  replace KA := Lib.hid KA
  go_enter Tryz.func9, Tryz.ntmps9
  go_wp2_with fail
  refine (TO.out _).mono ?_
  rintro _ wb ⟨rfl, kb⟩
  have KB := Lib.hid (KA.out.tr kb)
  replace h1 := Lib.hid (kb.heap h1.out id)
  replace h2 := Lib.hid (kb.heap h2.out id)
  clear kb KA TO
  go_wp2_with fail
  refine (PR.out _).mono ?_
  rintro _ _ ⟨rfl, rfl⟩
  go_wp2_with fail
  refine (OP.out _).mono ?_
  rintro _ wc ⟨rfl, kc⟩
  have KC := Lib.hid (KB.out.tr kc)
  replace h1 := Lib.hid (kc.heap h1.out id)
  replace h2 := Lib.hid (kc.heap h2.out id)
  clear kc KB OP PR
  go_wp2_with fail
  refine (S1.out _).mono ?_
  rintro _ wd ⟨rfl, kd⟩
  have ka := Kp.alloc No wd (.cells #[.int .i64 pl, .int .i64 ph] 25)
  have h6 := Lib.hid (heap_alloc_new wd (.cells #[.int .i64 pl, .int .i64 ph] 25))
  have KD := Lib.hid (KC.out.tr (kd.tr ka))
  have hl6 := Lib.hid (show w.heap.size + 1 < wd.heap.size from (Array.getElem?_eq_some_iff.1 (kd.heap h2.out id)).1)
  replace h1 := Lib.hid ((kd.tr ka).heap h1.out id)
  replace h2 := Lib.hid ((kd.tr ka).heap h2.out id)
  clear kd ka KC S1
  go_wp2_with fail
  generalize wd.alloc (.cells #[.int .i64 pl, .int .i64 ph] 25) = we at *
  generalize wd.heap.size = g6 at *
  refine (RO.out _).mono ?_
  rintro _ wf ⟨rfl, kf⟩
  have KF := Lib.hid (KD.out.tr kf)
  have h6f := kf.heap h6.out id
  obtain ⟨x0, x1, y0, y1⟩ := two_cells h6f
  have hs := setI_at h6f (.int .i64 vl) (.int .i64 vh)
  have ks := kp_setI wf g6 (.int .i64 vl) (.int .i64 vh)
  replace h1 := ks.heap (kf.heap h1.out id) (fun e => by unfold Kq.One at e; have := hl6.out; omega)
  replace h2 := Lib.hid (ks.heap (kf.heap h2.out id) (fun e => by unfold Kq.One at e; have := hl6.out; omega))
  have KG := Lib.hid (KF.out.trans ks (fun k hk e => by unfold Kq.One at e; have := hl6.out; omega))
  obtain ⟨t0, t1, _, _⟩ := two_cells h1
  clear h6 kf KD KF RO h6f ks
  replace h6 := Lib.hid hs
  clear hs
  replace h1 := Lib.hid h1
  go_wp2_with fail
  generalize (wf.setCell ⟨g6, 0, none⟩ (.int .i64 vl)).setCell ⟨g6, 1, none⟩ (.int .i64 vh) = wg at *
  clear x0 x1 y0 y1
  refine (OB.out _).mono ?_
  rintro _ wh ⟨rfl, kh⟩
  have KH := Lib.hid (KG.out.tr kh)
  replace h1 := Lib.hid (kh.heap h1.out id)
  replace h2 := Lib.hid (kh.heap h2.out id)
  replace h6 := Lib.hid (kh.heap h6.out id)
  clear kh KG OB t0 t1
  go_wp2_with fail
  refine (DI.out _).mono ?_
  rintro _ wi ⟨rfl, ki⟩
  have ka := Kp.alloc No wi (.cells #[.int .i64 dl, .int .i64 dh] 25)
  have h8 := Lib.hid (heap_alloc_new wi (.cells #[.int .i64 dl, .int .i64 dh] 25))
  have KI := Lib.hid (KH.out.tr (ki.tr ka))
  have hl8 := Lib.hid (show w.heap.size + 1 < wi.heap.size from (Array.getElem?_eq_some_iff.1 (ki.heap h2.out id)).1)
  replace h1 := Lib.hid ((ki.tr ka).heap h1.out id)
  replace h2 := Lib.hid ((ki.tr ka).heap h2.out id)
  have h6i := ki.heap h6.out id
  obtain ⟨x0, x1, _, _⟩ := two_cells h6i
  have hg6 : g6 < wi.heap.size := (Array.getElem?_eq_some_iff.1 h6i).1
  clear ki ka KH DI h6 h6i
  go_wp2_with fail
  generalize wi.alloc (.cells #[.int .i64 dl, .int .i64 dh] 25) = wj at *
  generalize wi.heap.size = g8 at *
  refine (MU.out _).mono ?_
  rintro _ wk ⟨rfl, kk⟩
  clear x0 x1
  have KK := Lib.hid (KI.out.tr kk)
  have h8f := kk.heap h8.out id
  obtain ⟨x0, x1, y0, y1⟩ := two_cells h8f
  have hs := setI_at h8f (.int .i64 ml) (.int .i64 mh)
  have ks := kp_setI wk g8 (.int .i64 ml) (.int .i64 mh)
  have h1k := kk.heap h1.out id
  replace h2 := Lib.hid (ks.heap (kk.heap h2.out id) (fun e => by unfold Kq.One at e; have := hl8.out; omega))
  have h1l := ks.heap h1k (fun e => by unfold Kq.One at e; have := hl8.out; omega)
  have KL := Lib.hid (KK.out.trans ks (fun k hk e => by unfold Kq.One at e; have := hl8.out; omega))
  obtain ⟨t0, t1, _, _⟩ := two_cells h1k
  obtain ⟨u0, u1, _, _⟩ := two_cells h1l
  obtain ⟨v0, v1, _, _⟩ := two_cells hs
  clear h8 kk KI KK MU h8f ks hs h1k h1l h1
  go_wp2_with fail
  generalize (wk.setCell ⟨g8, 0, none⟩ (.int .i64 ml)).setCell ⟨g8, 1, none⟩ (.int .i64 mh) = wl at *
  clear x0 x1 y0 y1 t0 t1 u0 u1 v0 v1
  refine (S2.out _).mono ?_
  rintro _ wm ⟨rfl, km⟩
  have KM := Lib.hid (KL.out.tr km)
  have hr := km.heap h2.out id
  obtain ⟨r0, r1, z0, z1⟩ := two_cells hr
  clear km
  replace hr := Lib.hid hr
  go_wp2_with fail
  have hs := setI_at hr.out (.int .i64 tl) (.int .i64 th)
  obtain ⟨v0, v1, _, _⟩ := two_cells hs
  exact bodyPost_ret (v := .tuple #[.agg #[.int .i64 tl, .int .i64 th], .int .i64 0]) (by simp [results, Tryz.results9, go_sem, v0, v1]) rfl ⟨rfl, kp_set2 KM.out (by omega)⟩
end Go.Proofs.YtlieijnhaolnhaaGreat

namespace Go.Proofs.YtlieijnhaolnhaaGreat
open Go.RowKit Go.Kq

set_option maxHeartbeats 1000000 in
theorem rpipe_toe (b f p : Int) (w : World) (h : toeB b f = false) : Calls Tryz.prog 9 #[toeV b f, .int .i64 p] w (IvR 0 0 2 w) := by
  have TO := Lib.hid (fun w0 => toe13_is b f w0)
  rw [h] at TO
  simp only [toeV] at *
  obtain ⟨h1, h2, KA⟩ := two_newQ w (.cells #[.int .i64 b, .int .i64 f] 23) (.cells #[.int .i64 0, .int .i64 0] 25)
  replace h2 := Lib.hid h2
  replace KA := Lib.hid KA
  clear h h1
  go_enter Tryz.func9, Tryz.ntmps9
  go_wp2_with fail
  refine (TO.out _).mono ?_
  rintro _ wb ⟨rfl, kb⟩
  have KB := Lib.hid (KA.out.tr kb)
  have hr := kb.heap h2.out id
  obtain ⟨r0, r1, z0, z1⟩ := two_cells hr
  clear kb KA TO
  replace hr := Lib.hid hr
  go_wp2_with fail
  have hs := setI_at hr.out (.int .i64 0) (.int .i64 0)
  obtain ⟨v0, v1, _, _⟩ := two_cells hs
  exact bodyPost_ret (v := .tuple #[.agg #[.int .i64 0, .int .i64 0], .int .i64 2]) (by simp [results, Tryz.results9, go_sem, v0, v1]) rfl ⟨rfl, kp_set2 KB.out (by omega)⟩
set_option maxHeartbeats 1000000 in
theorem rpipe_pre (b f p : Int) (w : World) (h : toeB b f = true) (hp : preB p = false) : Calls Tryz.prog 9 #[toeV b f, .int .i64 p] w (IvR 0 0 2 w) := by
  have TO := Lib.hid (fun w0 => toe13_is b f w0)
  have PR := Lib.hid (fun w0 => pressure13_is p w0)
  rw [h] at TO
  rw [hp] at PR
  simp only [toeV] at *
  obtain ⟨h1, h2, KA⟩ := two_newQ w (.cells #[.int .i64 b, .int .i64 f] 23) (.cells #[.int .i64 0, .int .i64 0] 25)
  replace h2 := Lib.hid h2
  replace KA := Lib.hid KA
  clear h h1 hp
  go_enter Tryz.func9, Tryz.ntmps9
  go_wp2_with fail
  refine (TO.out _).mono ?_
  rintro _ wb ⟨rfl, kb⟩
  have KB := Lib.hid (KA.out.tr kb)
  have hr := kb.heap h2.out id
  obtain ⟨r0, r1, z0, z1⟩ := two_cells hr
  clear kb KA TO
  replace hr := Lib.hid hr
  go_wp2_with fail
  refine (PR.out _).mono ?_
  rintro _ _ ⟨rfl, rfl⟩
  go_wp2_with fail
  have hs := setI_at hr.out (.int .i64 0) (.int .i64 0)
  obtain ⟨v0, v1, _, _⟩ := two_cells hs
  exact bodyPost_ret (v := .tuple #[.agg #[.int .i64 0, .int .i64 0], .int .i64 2]) (by simp [results, Tryz.results9, go_sem, v0, v1]) rfl ⟨rfl, kp_set2 KB.out (by omega)⟩
theorem rpipe_any (b f p : Int) (w : World) : Calls Tryz.prog 9 #[toeV b f, .int .i64 p] w (IvR (pipE b f p).1 (pipE b f p).2.1 (pipE b f p).2.2 w) := by
  unfold pipE
  cases h : toeB b f
  · simpa using rpipe_toe b f p w h
  · cases hp : preB p
    · simpa using rpipe_pre b f p w h hp
    · simpa using rpipe_ok b f p w ⟨h, hp⟩
/-- What Drop does once both Pipes are known. -/
def SubMeet (a1 a2 b1 b2 d1 d2 m1 m2 : Int) : Prop :=
  (∀ w0, Calls Tryz.prog 35 #[.agg #[.int .i64 a1, .int .i64 a2], .agg #[.int .i64 b1, .int .i64 b2]] w0 (IvR d1 d2 0 w0)) ∧
  ∀ w0, Calls Tryz.prog 36 #[.agg #[.int .i64 0, .int .i64 4611686018427387904], .agg #[.int .i64 d1, .int .i64 d2]] w0 (IvR m1 m2 0 w0)
set_option maxHeartbeats 2000000 in
set_option maxRecDepth 100000 in
theorem rdrop_ok (b f p q a1 a2 b1 b2 d1 d2 m1 m2 : Int) (w : World) (hpq : q ≤ p) (PA : ∀ w0, Calls Tryz.prog 9 #[toeV b f, .int .i64 p] w0 (IvR a1 a2 0 w0)) (PB : ∀ w0, Calls Tryz.prog 9 #[toeV b f, .int .i64 q] w0 (IvR b1 b2 0 w0)) (SM : SubMeet a1 a2 b1 b2 d1 d2 m1 m2) :
    Calls Tryz.prog 11 #[toeV b f, .int .i64 p, .int .i64 q] w (IvR m1 m2 0 w) := by
  have SU := Lib.hid SM.1
  have ME := Lib.hid SM.2
  simp only [toeV] at *
  replace PA := Lib.hid PA
  replace PB := Lib.hid PB
  clear SM
  obtain ⟨h1, h2, KA⟩ := two_newQ w (.cells #[.int .i64 b, .int .i64 f] 23) (.cells #[.int .i64 0, .int .i64 0] 25)
  replace h1 := Lib.hid h1
  replace h2 := Lib.hid h2
  replace KA := Lib.hid KA
  go_enter Tryz.func11, Tryz.ntmps11
  go_wp2_with fail
  refine (PA.out _).mono ?_
  rintro _ wb ⟨rfl, kb⟩
  have ka := Kp.alloc No wb (.cells #[.int .i64 a1, .int .i64 a2] 25)
  have KB := Lib.hid (KA.out.tr (kb.tr ka))
  replace h1 := (kb.tr ka).heap h1.out id
  replace h2 := Lib.hid ((kb.tr ka).heap h2.out id)
  have h8 := Lib.hid (heap_alloc_new wb (.cells #[.int .i64 a1, .int .i64 a2] 25))
  obtain ⟨t0, t1, _, _⟩ := two_cells h1
  clear kb ka KA PA h1
  go_wp2_with fail
  generalize wb.alloc (.cells #[.int .i64 a1, .int .i64 a2] 25) = wc at *
  generalize wb.heap.size = g8 at *
  refine (PB.out _).mono ?_
  rintro _ wd ⟨rfl, kd⟩
  clear t0 t1
  have ka := Kp.alloc No wd (.cells #[.int .i64 b1, .int .i64 b2] 25)
  have KD := Lib.hid (KB.out.tr (kd.tr ka))
  replace h2 := Lib.hid ((kd.tr ka).heap h2.out id)
  have h8' := kd.heap h8.out id
  obtain ⟨x0, x1, _, _⟩ := two_cells h8'
  have hlt : g8 < wd.heap.size := (Array.getElem?_eq_some_iff.1 h8').1
  clear kd ka KB PB h8 h8'
  go_wp2_with fail
  generalize wd.alloc (.cells #[.int .i64 b1, .int .i64 b2] 25) = we at *
  refine (SU.out _).mono ?_
  rintro _ wf ⟨rfl, kf⟩
  have ka := Kp.alloc No wf (.cells #[.int .i64 d1, .int .i64 d2] 25)
  have KF := Lib.hid (KD.out.tr (kf.tr ka))
  replace h2 := Lib.hid ((kf.tr ka).heap h2.out id)
  clear kf ka KD SU x0 x1
  go_wp2_with fail
  refine (ME.out _).mono ?_
  rintro _ wm ⟨rfl, km⟩
  have KM := Lib.hid (KF.out.tr km)
  have hr := km.heap h2.out id
  obtain ⟨r0, r1, z0, z1⟩ := two_cells hr
  clear km
  replace hr := Lib.hid hr
  go_wp2_with fail
  have hs := setI_at hr.out (.int .i64 m1) (.int .i64 m2)
  obtain ⟨v0, v1, _, _⟩ := two_cells hs
  exact bodyPost_ret (v := .tuple #[.agg #[.int .i64 m1, .int .i64 m2], .int .i64 0]) (by simp [results, Tryz.results11, go_sem, v0, v1]) rfl ⟨rfl, kp_set2 KM.out (by omega)⟩
set_option maxHeartbeats 2000000 in
set_option maxRecDepth 100000 in
theorem rdrop_a (b f p q a1 a2 b1 b2 : Int) (w : World) (e2 : Int) (PA : ∀ w0, Calls Tryz.prog 9 #[toeV b f, .int .i64 p] w0 (IvR a1 a2 2 w0)) (PB : ∀ w0, Calls Tryz.prog 9 #[toeV b f, .int .i64 q] w0 (IvR b1 b2 e2 w0)) :
    Calls Tryz.prog 11 #[toeV b f, .int .i64 p, .int .i64 q] w (IvR 0 0 2 w) := by
  simp only [toeV] at *
  replace PA := Lib.hid PA
  replace PB := Lib.hid PB
  obtain ⟨h1, h2, KA⟩ := two_newQ w (.cells #[.int .i64 b, .int .i64 f] 23) (.cells #[.int .i64 0, .int .i64 0] 25)
  replace h1 := Lib.hid h1
  replace h2 := Lib.hid h2
  replace KA := Lib.hid KA
  go_enter Tryz.func11, Tryz.ntmps11
  go_wp2_with fail
  refine (PA.out _).mono ?_
  rintro _ wb ⟨rfl, kb⟩
  have ka := Kp.alloc No wb (.cells #[.int .i64 a1, .int .i64 a2] 25)
  have KB := Lib.hid (KA.out.tr (kb.tr ka))
  replace h1 := (kb.tr ka).heap h1.out id
  replace h2 := Lib.hid ((kb.tr ka).heap h2.out id)
  have h8 := Lib.hid (heap_alloc_new wb (.cells #[.int .i64 a1, .int .i64 a2] 25))
  obtain ⟨t0, t1, _, _⟩ := two_cells h1
  clear kb ka KA PA h1
  go_wp2_with fail
  generalize wb.alloc (.cells #[.int .i64 a1, .int .i64 a2] 25) = wc at *
  generalize wb.heap.size = g8 at *
  refine (PB.out _).mono ?_
  rintro _ wd ⟨rfl, kd⟩
  clear t0 t1
  have ka := Kp.alloc No wd (.cells #[.int .i64 b1, .int .i64 b2] 25)
  have KD := Lib.hid (KB.out.tr kd)
  have hr := kd.heap h2.out id
  obtain ⟨r0, r1, z0, z1⟩ := two_cells hr
  have hlt : w.heap.size + 1 < wd.heap.size := (Array.getElem?_eq_some_iff.1 hr).1
  clear kd ka KB PB h8
  replace hr := Lib.hid hr
  go_wp2_with fail
  have hs := setI_at hr.out (.int .i64 0) (.int .i64 0)
  have ks := kp_set2 (x := .int .i64 0) (y := .int .i64 0) KD.out (show w.heap.size ≤ w.heap.size + 1 by omega)
  generalize (wd.setCell ⟨w.heap.size + 1, 0, none⟩ (.int .i64 0)).setCell ⟨w.heap.size + 1, 1, none⟩ (.int .i64 0) = we at *
  have ka := Kp.alloc No we (.cells #[.int .i64 b1, .int .i64 b2] 25)
  obtain ⟨v0, v1, _, _⟩ := two_cells (ka.heap hs id)
  exact bodyPost_ret (v := .tuple #[.agg #[.int .i64 0, .int .i64 0], .int .i64 2]) (by simp [results, Tryz.results11, go_sem, v0, v1]) rfl ⟨rfl, ks.tr ka⟩
set_option maxHeartbeats 2000000 in
set_option maxRecDepth 100000 in
theorem rdrop_b (b f p q a1 a2 b1 b2 : Int) (w : World) (PA : ∀ w0, Calls Tryz.prog 9 #[toeV b f, .int .i64 p] w0 (IvR a1 a2 0 w0)) (PB : ∀ w0, Calls Tryz.prog 9 #[toeV b f, .int .i64 q] w0 (IvR b1 b2 2 w0)) :
    Calls Tryz.prog 11 #[toeV b f, .int .i64 p, .int .i64 q] w (IvR 0 0 2 w) := by
  simp only [toeV] at *
  replace PA := Lib.hid PA
  replace PB := Lib.hid PB
  obtain ⟨h1, h2, KA⟩ := two_newQ w (.cells #[.int .i64 b, .int .i64 f] 23) (.cells #[.int .i64 0, .int .i64 0] 25)
  replace h1 := Lib.hid h1
  replace h2 := Lib.hid h2
  replace KA := Lib.hid KA
  go_enter Tryz.func11, Tryz.ntmps11
  go_wp2_with fail
  refine (PA.out _).mono ?_
  rintro _ wb ⟨rfl, kb⟩
  have ka := Kp.alloc No wb (.cells #[.int .i64 a1, .int .i64 a2] 25)
  have KB := Lib.hid (KA.out.tr (kb.tr ka))
  replace h1 := (kb.tr ka).heap h1.out id
  replace h2 := Lib.hid ((kb.tr ka).heap h2.out id)
  have h8 := Lib.hid (heap_alloc_new wb (.cells #[.int .i64 a1, .int .i64 a2] 25))
  obtain ⟨t0, t1, _, _⟩ := two_cells h1
  clear kb ka KA PA h1
  go_wp2_with fail
  generalize wb.alloc (.cells #[.int .i64 a1, .int .i64 a2] 25) = wc at *
  generalize wb.heap.size = g8 at *
  refine (PB.out _).mono ?_
  rintro _ wd ⟨rfl, kd⟩
  clear t0 t1
  have ka := Kp.alloc No wd (.cells #[.int .i64 b1, .int .i64 b2] 25)
  have KD := Lib.hid (KB.out.tr kd)
  have hr := kd.heap h2.out id
  obtain ⟨r0, r1, z0, z1⟩ := two_cells hr
  have hlt : w.heap.size + 1 < wd.heap.size := (Array.getElem?_eq_some_iff.1 hr).1
  clear kd ka KB PB h8
  replace hr := Lib.hid hr
  go_wp2_with fail
  have hs := setI_at hr.out (.int .i64 0) (.int .i64 0)
  have ks := kp_set2 (x := .int .i64 0) (y := .int .i64 0) KD.out (show w.heap.size ≤ w.heap.size + 1 by omega)
  generalize (wd.setCell ⟨w.heap.size + 1, 0, none⟩ (.int .i64 0)).setCell ⟨w.heap.size + 1, 1, none⟩ (.int .i64 0) = we at *
  have ka := Kp.alloc No we (.cells #[.int .i64 b1, .int .i64 b2] 25)
  obtain ⟨v0, v1, _, _⟩ := two_cells (ka.heap hs id)
  exact bodyPost_ret (v := .tuple #[.agg #[.int .i64 0, .int .i64 0], .int .i64 2]) (by simp [results, Tryz.results11, go_sem, v0, v1]) rfl ⟨rfl, ks.tr ka⟩
set_option maxHeartbeats 2000000 in
set_option maxRecDepth 100000 in
theorem rdrop_r (b f p q a1 a2 b1 b2 : Int) (w : World) (hpq : p < q) (PA : ∀ w0, Calls Tryz.prog 9 #[toeV b f, .int .i64 p] w0 (IvR a1 a2 0 w0)) (PB : ∀ w0, Calls Tryz.prog 9 #[toeV b f, .int .i64 q] w0 (IvR b1 b2 0 w0)) :
    Calls Tryz.prog 11 #[toeV b f, .int .i64 p, .int .i64 q] w (IvR 0 0 7 w) := by
  simp only [toeV] at *
  replace PA := Lib.hid PA
  replace PB := Lib.hid PB
  obtain ⟨h1, h2, KA⟩ := two_newQ w (.cells #[.int .i64 b, .int .i64 f] 23) (.cells #[.int .i64 0, .int .i64 0] 25)
  replace h1 := Lib.hid h1
  replace h2 := Lib.hid h2
  replace KA := Lib.hid KA
  go_enter Tryz.func11, Tryz.ntmps11
  go_wp2_with fail
  refine (PA.out _).mono ?_
  rintro _ wb ⟨rfl, kb⟩
  have ka := Kp.alloc No wb (.cells #[.int .i64 a1, .int .i64 a2] 25)
  have KB := Lib.hid (KA.out.tr (kb.tr ka))
  replace h1 := (kb.tr ka).heap h1.out id
  replace h2 := Lib.hid ((kb.tr ka).heap h2.out id)
  have h8 := Lib.hid (heap_alloc_new wb (.cells #[.int .i64 a1, .int .i64 a2] 25))
  obtain ⟨t0, t1, _, _⟩ := two_cells h1
  clear kb ka KA PA h1
  go_wp2_with fail
  generalize wb.alloc (.cells #[.int .i64 a1, .int .i64 a2] 25) = wc at *
  generalize wb.heap.size = g8 at *
  refine (PB.out _).mono ?_
  rintro _ wd ⟨rfl, kd⟩
  clear t0 t1
  have ka := Kp.alloc No wd (.cells #[.int .i64 b1, .int .i64 b2] 25)
  have KD := Lib.hid (KB.out.tr kd)
  have hr := kd.heap h2.out id
  obtain ⟨r0, r1, z0, z1⟩ := two_cells hr
  have hlt : w.heap.size + 1 < wd.heap.size := (Array.getElem?_eq_some_iff.1 hr).1
  clear kd ka KB PB h8
  replace hr := Lib.hid hr
  go_wp2_with fail
  have hs := setI_at hr.out (.int .i64 0) (.int .i64 0)
  have ks := kp_set2 (x := .int .i64 0) (y := .int .i64 0) KD.out (show w.heap.size ≤ w.heap.size + 1 by omega)
  generalize (wd.setCell ⟨w.heap.size + 1, 0, none⟩ (.int .i64 0)).setCell ⟨w.heap.size + 1, 1, none⟩ (.int .i64 0) = we at *
  have ka := Kp.alloc No we (.cells #[.int .i64 b1, .int .i64 b2] 25)
  obtain ⟨v0, v1, _, _⟩ := two_cells (ka.heap hs id)
  exact bodyPost_ret (v := .tuple #[.agg #[.int .i64 0, .int .i64 0], .int .i64 7]) (by simp [results, Tryz.results11, go_sem, v0, v1]) rfl ⟨rfl, ks.tr ka⟩
end Go.Proofs.YtlieijnhaolnhaaGreat
