/- Chapter 13: the reference's Pipe and Drop at all inputs: walks. · Chapter 13: law 1 (DemandPipes): the walk. -/
import Derived.Test.YtlieijnhaolnhaaGreatXRpp
import Derived.Test.YtlieijnhaolnhaaGreatXDrp
import Derived.Test.YtlieijnhaolnhaaGreatXAwk
namespace Go.Proofs.YtlieijnhaolnhaaGreat
open Go.RowKit Go.Kq

set_option maxHeartbeats 1000000 in
theorem rpipe_toe (b f p : Int) (w : World) (h : toeB b f = false) : Calls Tryz.prog 9 #[toeV b f, .int .i64 p] w (IvR 0 0 2 w) := by
  have TO := Lib.hid (fun w0 => toe13_is b f w0)
  rw [h] at TO
  simp only [toeV] at *
  obtain ⟨h1, h2, KA⟩ := two_newQ w (.cells #[.int .i64 b, .int .i64 f] 23) (.cells #[.int .i64 0, .int .i64 0] 25)
  replace h2 := Lib.hid h2
  replace KA := Lib.hid KA
  clear h h1
  go_enter Tryz.func9, Tryz.ntmps9
  go_wp2_with fail
  refine (TO.out _).mono ?_
  rintro _ wb ⟨rfl, kb⟩
  have KB := Lib.hid (KA.out.tr kb)
  have hr := kb.heap h2.out id
  obtain ⟨r0, r1, z0, z1⟩ := two_cells hr
  clear kb KA TO
  replace hr := Lib.hid hr
  go_wp2_with fail
  have hs := setI_at hr.out (.int .i64 0) (.int .i64 0)
  obtain ⟨v0, v1, _, _⟩ := two_cells hs
  exact bodyPost_ret (v := .tuple #[.agg #[.int .i64 0, .int .i64 0], .int .i64 2]) (by simp [results, Tryz.results9, go_sem, v0, v1]) rfl ⟨rfl, kp_set2 KB.out (by omega)⟩
set_option maxHeartbeats 1000000 in
theorem rpipe_pre (b f p : Int) (w : World) (h : toeB b f = true) (hp : preB p = false) : Calls Tryz.prog 9 #[toeV b f, .int .i64 p] w (IvR 0 0 2 w) := by
  have TO := Lib.hid (fun w0 => toe13_is b f w0)
  have PR := Lib.hid (fun w0 => pressure13_is p w0)
  rw [h] at TO
  rw [hp] at PR
  simp only [toeV] at *
  obtain ⟨h1, h2, KA⟩ := two_newQ w (.cells #[.int .i64 b, .int .i64 f] 23) (.cells #[.int .i64 0, .int .i64 0] 25)
  replace h2 := Lib.hid h2
  replace KA := Lib.hid KA
  clear h h1 hp
  go_enter Tryz.func9, Tryz.ntmps9
  go_wp2_with fail
  refine (TO.out _).mono ?_
  rintro _ wb ⟨rfl, kb⟩
  have KB := Lib.hid (KA.out.tr kb)
  have hr := kb.heap h2.out id
  obtain ⟨r0, r1, z0, z1⟩ := two_cells hr
  clear kb KA TO
  replace hr := Lib.hid hr
  go_wp2_with fail
  refine (PR.out _).mono ?_
  rintro _ _ ⟨rfl, rfl⟩
  go_wp2_with fail
  have hs := setI_at hr.out (.int .i64 0) (.int .i64 0)
  obtain ⟨v0, v1, _, _⟩ := two_cells hs
  exact bodyPost_ret (v := .tuple #[.agg #[.int .i64 0, .int .i64 0], .int .i64 2]) (by simp [results, Tryz.results9, go_sem, v0, v1]) rfl ⟨rfl, kp_set2 KB.out (by omega)⟩
theorem rpipe_any (b f p : Int) (w : World) : Calls Tryz.prog 9 #[toeV b f, .int .i64 p] w (IvR (pipE b f p).1 (pipE b f p).2.1 (pipE b f p).2.2 w) := by
  unfold pipE
  cases h : toeB b f
  · simpa using rpipe_toe b f p w h
  · cases hp : preB p
    · simpa using rpipe_pre b f p w h hp
    · simpa using rpipe_ok b f p w ⟨h, hp⟩
/-- What Drop does once both Pipes are known. -/
def SubMeet (a1 a2 b1 b2 d1 d2 m1 m2 : Int) : Prop :=
  (∀ w0, Calls Tryz.prog 35 #[.agg #[.int .i64 a1, .int .i64 a2], .agg #[.int .i64 b1, .int .i64 b2]] w0 (IvR d1 d2 0 w0)) ∧
  ∀ w0, Calls Tryz.prog 36 #[.agg #[.int .i64 0, .int .i64 4611686018427387904], .agg #[.int .i64 d1, .int .i64 d2]] w0 (IvR m1 m2 0 w0)
set_option maxHeartbeats 2000000 in
set_option maxRecDepth 100000 in
theorem rdrop_ok (b f p q a1 a2 b1 b2 d1 d2 m1 m2 : Int) (w : World) (hpq : q ≤ p) (PA : ∀ w0, Calls Tryz.prog 9 #[toeV b f, .int .i64 p] w0 (IvR a1 a2 0 w0)) (PB : ∀ w0, Calls Tryz.prog 9 #[toeV b f, .int .i64 q] w0 (IvR b1 b2 0 w0)) (SM : SubMeet a1 a2 b1 b2 d1 d2 m1 m2) :
    Calls Tryz.prog 11 #[toeV b f, .int .i64 p, .int .i64 q] w (IvR m1 m2 0 w) := by
  have SU := Lib.hid SM.1
  have ME := Lib.hid SM.2
  simp only [toeV] at *
  replace PA := Lib.hid PA
  replace PB := Lib.hid PB
  clear SM
  obtain ⟨h1, h2, KA⟩ := two_newQ w (.cells #[.int .i64 b, .int .i64 f] 23) (.cells #[.int .i64 0, .int .i64 0] 25)
  replace h1 := Lib.hid h1
  replace h2 := Lib.hid h2
  replace KA := Lib.hid KA
  go_enter Tryz.func11, Tryz.ntmps11
  go_wp2_with fail
  refine (PA.out _).mono ?_
  rintro _ wb ⟨rfl, kb⟩
  have ka := Kp.alloc No wb (.cells #[.int .i64 a1, .int .i64 a2] 25)
  have KB := Lib.hid (KA.out.tr (kb.tr ka))
  replace h1 := (kb.tr ka).heap h1.out id
  replace h2 := Lib.hid ((kb.tr ka).heap h2.out id)
  have h8 := Lib.hid (heap_alloc_new wb (.cells #[.int .i64 a1, .int .i64 a2] 25))
  obtain ⟨t0, t1, _, _⟩ := two_cells h1
  clear kb ka KA PA h1
  go_wp2_with fail
  generalize wb.alloc (.cells #[.int .i64 a1, .int .i64 a2] 25) = wc at *
  generalize wb.heap.size = g8 at *
  refine (PB.out _).mono ?_
  rintro _ wd ⟨rfl, kd⟩
  clear t0 t1
  have ka := Kp.alloc No wd (.cells #[.int .i64 b1, .int .i64 b2] 25)
  have KD := Lib.hid (KB.out.tr (kd.tr ka))
  replace h2 := Lib.hid ((kd.tr ka).heap h2.out id)
  have h8' := kd.heap h8.out id
  obtain ⟨x0, x1, _, _⟩ := two_cells h8'
  have hlt : g8 < wd.heap.size := (Array.getElem?_eq_some_iff.1 h8').1
  clear kd ka KB PB h8 h8'
  go_wp2_with fail
  generalize wd.alloc (.cells #[.int .i64 b1, .int .i64 b2] 25) = we at *
  refine (SU.out _).mono ?_
  rintro _ wf ⟨rfl, kf⟩
  have ka := Kp.alloc No wf (.cells #[.int .i64 d1, .int .i64 d2] 25)
  have KF := Lib.hid (KD.out.tr (kf.tr ka))
  replace h2 := Lib.hid ((kf.tr ka).heap h2.out id)
  clear kf ka KD SU x0 x1
  go_wp2_with fail
  refine (ME.out _).mono ?_
  rintro _ wm ⟨rfl, km⟩
  have KM := Lib.hid (KF.out.tr km)
  have hr := km.heap h2.out id
  obtain ⟨r0, r1, z0, z1⟩ := two_cells hr
  clear km
  replace hr := Lib.hid hr
  go_wp2_with fail
  have hs := setI_at hr.out (.int .i64 m1) (.int .i64 m2)
  obtain ⟨v0, v1, _, _⟩ := two_cells hs
  exact bodyPost_ret (v := .tuple #[.agg #[.int .i64 m1, .int .i64 m2], .int .i64 0]) (by simp [results, Tryz.results11, go_sem, v0, v1]) rfl ⟨rfl, kp_set2 KM.out (by omega)⟩
set_option maxHeartbeats 2000000 in
set_option maxRecDepth 100000 in
theorem rdrop_a (b f p q a1 a2 b1 b2 : Int) (w : World) (e2 : Int) (PA : ∀ w0, Calls Tryz.prog 9 #[toeV b f, .int .i64 p] w0 (IvR a1 a2 2 w0)) (PB : ∀ w0, Calls Tryz.prog 9 #[toeV b f, .int .i64 q] w0 (IvR b1 b2 e2 w0)) :
    Calls Tryz.prog 11 #[toeV b f, .int .i64 p, .int .i64 q] w (IvR 0 0 2 w) := by
  simp only [toeV] at *
  replace PA := Lib.hid PA
  replace PB := Lib.hid PB
  obtain ⟨h1, h2, KA⟩ := two_newQ w (.cells #[.int .i64 b, .int .i64 f] 23) (.cells #[.int .i64 0, .int .i64 0] 25)
  replace h1 := Lib.hid h1
  replace h2 := Lib.hid h2
  replace KA := Lib.hid KA
  go_enter Tryz.func11, Tryz.ntmps11
  go_wp2_with fail
  refine (PA.out _).mono ?_
  rintro _ wb ⟨rfl, kb⟩
  have ka := Kp.alloc No wb (.cells #[.int .i64 a1, .int .i64 a2] 25)
  have KB := Lib.hid (KA.out.tr (kb.tr ka))
  replace h1 := (kb.tr ka).heap h1.out id
  replace h2 := Lib.hid ((kb.tr ka).heap h2.out id)
  have h8 := Lib.hid (heap_alloc_new wb (.cells #[.int .i64 a1, .int .i64 a2] 25))
  obtain ⟨t0, t1, _, _⟩ := two_cells h1
  clear kb ka KA PA h1
  go_wp2_with fail
  generalize wb.alloc (.cells #[.int .i64 a1, .int .i64 a2] 25) = wc at *
  generalize wb.heap.size = g8 at *
  refine (PB.out _).mono ?_
  rintro _ wd ⟨rfl, kd⟩
  clear t0 t1
  have ka := Kp.alloc No wd (.cells #[.int .i64 b1, .int .i64 b2] 25)
  have KD := Lib.hid (KB.out.tr kd)
  have hr := kd.heap h2.out id
  obtain ⟨r0, r1, z0, z1⟩ := two_cells hr
  have hlt : w.heap.size + 1 < wd.heap.size := (Array.getElem?_eq_some_iff.1 hr).1
  clear kd ka KB PB h8
  replace hr := Lib.hid hr
  go_wp2_with fail
  have hs := setI_at hr.out (.int .i64 0) (.int .i64 0)
  have ks := kp_set2 (x := .int .i64 0) (y := .int .i64 0) KD.out (show w.heap.size ≤ w.heap.size + 1 by omega)
  generalize (wd.setCell ⟨w.heap.size + 1, 0, none⟩ (.int .i64 0)).setCell ⟨w.heap.size + 1, 1, none⟩ (.int .i64 0) = we at *
  have ka := Kp.alloc No we (.cells #[.int .i64 b1, .int .i64 b2] 25)
  obtain ⟨v0, v1, _, _⟩ := two_cells (ka.heap hs id)
  exact bodyPost_ret (v := .tuple #[.agg #[.int .i64 0, .int .i64 0], .int .i64 2]) (by simp [results, Tryz.results11, go_sem, v0, v1]) rfl ⟨rfl, ks.tr ka⟩
set_option maxHeartbeats 2000000 in
set_option maxRecDepth 100000 in
theorem rdrop_b (b f p q a1 a2 b1 b2 : Int) (w : World) (PA : ∀ w0, Calls Tryz.prog 9 #[toeV b f, .int .i64 p] w0 (IvR a1 a2 0 w0)) (PB : ∀ w0, Calls Tryz.prog 9 #[toeV b f, .int .i64 q] w0 (IvR b1 b2 2 w0)) :
    Calls Tryz.prog 11 #[toeV b f, .int .i64 p, .int .i64 q] w (IvR 0 0 2 w) := by
  simp only [toeV] at *
  replace PA := Lib.hid PA
  replace PB := Lib.hid PB
  obtain ⟨h1, h2, KA⟩ := two_newQ w (.cells #[.int .i64 b, .int .i64 f] 23) (.cells #[.int .i64 0, .int .i64 0] 25)
  replace h1 := Lib.hid h1
  replace h2 := Lib.hid h2
  replace KA := Lib.hid KA
  go_enter Tryz.func11, Tryz.ntmps11
  go_wp2_with fail
  refine (PA.out _).mono ?_
  rintro _ wb ⟨rfl, kb⟩
  have ka := Kp.alloc No wb (.cells #[.int .i64 a1, .int .i64 a2] 25)
  have KB := Lib.hid (KA.out.tr (kb.tr ka))
  replace h1 := (kb.tr ka).heap h1.out id
  replace h2 := Lib.hid ((kb.tr ka).heap h2.out id)
  have h8 := Lib.hid (heap_alloc_new wb (.cells #[.int .i64 a1, .int .i64 a2] 25))
  obtain ⟨t0, t1, _, _⟩ := two_cells h1
  clear kb ka KA PA h1
  go_wp2_with fail
  generalize wb.alloc (.cells #[.int .i64 a1, .int .i64 a2] 25) = wc at *
  generalize wb.heap.size = g8 at *
  refine (PB.out _).mono ?_
  rintro _ wd ⟨rfl, kd⟩
  clear t0 t1
  have ka := Kp.alloc No wd (.cells #[.int .i64 b1, .int .i64 b2] 25)
  have KD := Lib.hid (KB.out.tr kd)
  have hr := kd.heap h2.out id
  obtain ⟨r0, r1, z0, z1⟩ := two_cells hr
  have hlt : w.heap.size + 1 < wd.heap.size := (Array.getElem?_eq_some_iff.1 hr).1
  clear kd ka KB PB h8
  replace hr := Lib.hid hr
  go_wp2_with fail
  have hs := setI_at hr.out (.int .i64 0) (.int .i64 0)
  have ks := kp_set2 (x := .int .i64 0) (y := .int .i64 0) KD.out (show w.heap.size ≤ w.heap.size + 1 by omega)
  generalize (wd.setCell ⟨w.heap.size + 1, 0, none⟩ (.int .i64 0)).setCell ⟨w.heap.size + 1, 1, none⟩ (.int .i64 0) = we at *
  have ka := Kp.alloc No we (.cells #[.int .i64 b1, .int .i64 b2] 25)
  obtain ⟨v0, v1, _, _⟩ := two_cells (ka.heap hs id)
  exact bodyPost_ret (v := .tuple #[.agg #[.int .i64 0, .int .i64 0], .int .i64 2]) (by simp [results, Tryz.results11, go_sem, v0, v1]) rfl ⟨rfl, ks.tr ka⟩
set_option maxHeartbeats 2000000 in
set_option maxRecDepth 100000 in
theorem rdrop_r (b f p q a1 a2 b1 b2 : Int) (w : World) (hpq : p < q) (PA : ∀ w0, Calls Tryz.prog 9 #[toeV b f, .int .i64 p] w0 (IvR a1 a2 0 w0)) (PB : ∀ w0, Calls Tryz.prog 9 #[toeV b f, .int .i64 q] w0 (IvR b1 b2 0 w0)) :
    Calls Tryz.prog 11 #[toeV b f, .int .i64 p, .int .i64 q] w (IvR 0 0 7 w) := by
  simp only [toeV] at *
  replace PA := Lib.hid PA
  replace PB := Lib.hid PB
  obtain ⟨h1, h2, KA⟩ := two_newQ w (.cells #[.int .i64 b, .int .i64 f] 23) (.cells #[.int .i64 0, .int .i64 0] 25)
  replace h1 := Lib.hid h1
  replace h2 := Lib.hid h2
  replace KA := Lib.hid KA
  go_enter Tryz.func11, Tryz.ntmps11
  go_wp2_with fail
  refine (PA.out _).mono ?_
  rintro _ wb ⟨rfl, kb⟩
  have ka := Kp.alloc No wb (.cells #[.int .i64 a1, .int .i64 a2] 25)
  have KB := Lib.hid (KA.out.tr (kb.tr ka))
  replace h1 := (kb.tr ka).heap h1.out id
  replace h2 := Lib.hid ((kb.tr ka).heap h2.out id)
  have h8 := Lib.hid (heap_alloc_new wb (.cells #[.int .i64 a1, .int .i64 a2] 25))
  obtain ⟨t0, t1, _, _⟩ := two_cells h1
  clear kb ka KA PA h1
  go_wp2_with fail
  generalize wb.alloc (.cells #[.int .i64 a1, .int .i64 a2] 25) = wc at *
  generalize wb.heap.size = g8 at *
  refine (PB.out _).mono ?_
  rintro _ wd ⟨rfl, kd⟩
  clear t0 t1
  have ka := Kp.alloc No wd (.cells #[.int .i64 b1, .int .i64 b2] 25)
  have KD := Lib.hid (KB.out.tr kd)
  have hr := kd.heap h2.out id
  obtain ⟨r0, r1, z0, z1⟩ := two_cells hr
  have hlt : w.heap.size + 1 < wd.heap.size := (Array.getElem?_eq_some_iff.1 hr).1
  clear kd ka KB PB h8
  replace hr := Lib.hid hr
  go_wp2_with fail
  have hs := setI_at hr.out (.int .i64 0) (.int .i64 0)
  have ks := kp_set2 (x := .int .i64 0) (y := .int .i64 0) KD.out (show w.heap.size ≤ w.heap.size + 1 by omega)
  generalize (wd.setCell ⟨w.heap.size + 1, 0, none⟩ (.int .i64 0)).setCell ⟨w.heap.size + 1, 1, none⟩ (.int .i64 0) = we at *
  have ka := Kp.alloc No we (.cells #[.int .i64 b1, .int .i64 b2] 25)
  obtain ⟨v0, v1, _, _⟩ := two_cells (ka.heap hs id)
  exact bodyPost_ret (v := .tuple #[.agg #[.int .i64 0, .int .i64 0], .int .i64 7]) (by simp [results, Tryz.results11, go_sem, v0, v1]) rfl ⟨rfl, ks.tr ka⟩
end Go.Proofs.YtlieijnhaolnhaaGreat

namespace Go.Proofs.YtlieijnhaolnhaaGreat
open Go.RowKit Go.Kq

theorem iv_self (x1 x2 : Int) (w : World) : Sem.run Tryz.prog (binOp .eql 25 (.agg #[.int .i64 x1, .int .i64 x2]) (.agg #[.int .i64 x1, .int .i64 x2])) w = .ok (.bool true) w := by
  have := iv_eql (x1, x2) (x1, x2) w
  rwa [show eqP (x1, x2) (x1, x2) = true by simp [eqP]] at this
theorem rdrop_any (b f p q : Int) (w : World) : Calls Tryz.prog 11 #[toeV b f, .int .i64 p, .int .i64 q] w (IvR (drpE b f p q).1 (drpE b f p q).2.1 (drpE b f p q).2.2 w) := by
  unfold drpE
  cases h : toeB b f
  · simpa using rdrop_a b f p q 0 0 0 0 w 2 (fun w0 => rpipe_toe b f p w0 h) (fun w0 => rpipe_toe b f q w0 h)
  · cases hp : preB p
    · cases hq : preB q
      · simpa using rdrop_a b f p q 0 0 0 0 w 2 (fun w0 => rpipe_pre b f p w0 h hp) (fun w0 => rpipe_pre b f q w0 h hq)
      · simpa using rdrop_a b f p q 0 0 _ _ w 0 (fun w0 => rpipe_pre b f p w0 h hp) (fun w0 => rpipe_ok b f q w0 ⟨h, hq⟩)
    · cases hq : preB q
      · simpa using rdrop_b b f p q _ _ 0 0 w (fun w0 => rpipe_ok b f p w0 ⟨h, hp⟩) (fun w0 => rpipe_pre b f q w0 h hq)
      · by_cases hlt : p < q
        · simpa [hlt] using rdrop_r b f p q _ _ _ _ w hlt (fun w0 => rpipe_ok b f p w0 ⟨h, hp⟩) (fun w0 => rpipe_ok b f q w0 ⟨h, hq⟩)
        · have hb := toeB_of h
          have bd : ∀ p, preB p = true → 10 ≤ p ∧ p ≤ 5000 := fun p h => by unfold preB at h; simp at h; omega
          have hp' := bd p hp
          have hq' := bd q hq
          have t1 := tlo_nn (p := p) (show 0 ≤ b by omega) (show 0 ≤ f by omega)
          have t2 := tlo_thi (show 0 ≤ b by omega) (show 0 ≤ f by omega) (show 0 ≤ p by omega)
          have t3 := thi_le (p := p) (show 0 ≤ b by omega) hb.1.2 (show 0 ≤ f by omega) hb.2.2 (show 0 ≤ p by omega) hp'.2
          have u1 := tlo_nn (p := q) (show 0 ≤ b by omega) (show 0 ≤ f by omega)
          have u2 := tlo_thi (show 0 ≤ b by omega) (show 0 ≤ f by omega) (show 0 ≤ q by omega)
          have u3 := thi_le (p := q) (show 0 ≤ b by omega) hb.1.2 (show 0 ≤ f by omega) hb.2.2 (show 0 ≤ q by omega) hq'.2
          have m1 := tlo_mono (show 0 ≤ b by omega) (show 0 ≤ f by omega) (Int.le_refl b) (Int.le_refl f) (show q ≤ p by omega)
          have PA := fun w0 => rpipe_ok b f p w0 ⟨h, hp⟩
          have PB := fun w0 => rpipe_ok b f q w0 ⟨h, hq⟩
          generalize tlo b f p = a1 at *
          generalize thi b f p = a2 at *
          generalize tlo b f q = b1 at *
          generalize thi b f q = b2 at *
          have SM : SubMeet a1 a2 b1 b2 (a1 - b2) (a2 - b1) (max (a1 - b2) 0) (a2 - b1) := by
            constructor
            · intro w0
              have := Sub03_is (a1, a2) (b1, b2) w0
              rw [sub_span (ck_one13 (by omega) t2 (by omega)) (ck_one13 (by omega) u2 (by omega)), spanE_ok (by omega) (by show a1 - b2 ≤ a2 - b1; omega) (by show a2 - b1 ≤ _; omega)] at this
              exact this
            · intro w0
              have := meet03_is (0, 4611686018427387904) (a1 - b2, a2 - b1) w0 (ck_both (ck_one13 (by omega) (by omega) (by omega)) (ck_one13 (by omega) (by omega) (by omega))) (by simp only; omega)
              rw [show max (0 : Int) (a1 - b2) = max (a1 - b2) 0 by omega, show min (4611686018427387904 : Int) (a2 - b1) = a2 - b1 by omega] at this
              exact this
          have := rdrop_ok b f p q a1 a2 b1 b2 _ _ _ _ w (by omega) PA PB SM
          simpa [hlt] using this
set_option maxHeartbeats 2000000 in
set_option maxRecDepth 100000 in
theorem tpipes_any (b f p q : Int) (w : World) :
    Calls Tryz.prog 3 #[toeV b f, .int .i64 p, .int .i64 q] w fun e w' => e = .returned (.bool true) ∧ Kp No w w' := by
  have PI := fun w0 => Pipe_any b f p w0
  have RP := fun w0 => rpipe_any b f p w0
  have DR := fun w0 => Drop_any b f p q w0
  have RD := fun w0 => rdrop_any b f p q w0
  have AW := Lib.hid awake_any
  generalize pipE b f p = P at *
  generalize drpE b f p q = D at *
  obtain ⟨p1, p2, p3⟩ := P
  obtain ⟨d1, d2, d3⟩ := D
  simp only [ieV, ivV] at PI DR
  simp only at RP RD
  replace PI := Lib.hid PI
  replace RP := Lib.hid RP
  replace DR := Lib.hid DR
  replace RD := Lib.hid RD
  have hg := iv_guard
  have q1 := iv_self p1 p2
  have q2 := iv_self d1 d2
  unfold toeV at *
  have KA := Lib.hid (Kp.alloc No w (.cells #[.int .i64 b, .int .i64 f] 23))
  have T := Lib.hid (heap_alloc_new w (.cells #[.int .i64 b, .int .i64 f] 23))
  go_enter Tryz.func3, Tryz.ntmps3
  go_wp2_with fail
  obtain ⟨c0, c1, _, _⟩ := two_cells T.out
  refine (PI.out _).mono ?_
  rintro _ w1 ⟨rfl, k⟩
  have ka := Kp.alloc No w1 (.cells #[.int .i64 p1, .int .i64 p2] 25)
  replace KA := Lib.hid (KA.out.tr (k.tr ka))
  replace T := Lib.hid ((k.tr ka).heap T.out id)
  have Bg1 := Lib.hid (heap_alloc_new w1 (.cells #[.int .i64 p1, .int .i64 p2] 25))
  clear k ka PI
  replace c0 := (two_cells T.out).1
  replace c1 := (two_cells T.out).2.1
  go_wp2_with fail
  generalize w1.alloc (.cells #[.int .i64 p1, .int .i64 p2] 25) = vw1 at *
  generalize w1.heap.size = g1 at *
  refine (RP.out _).mono ?_
  rintro _ w2 ⟨rfl, k⟩
  have ka := Kp.alloc No w2 (.cells #[.int .i64 p1, .int .i64 p2] 25)
  replace KA := Lib.hid (KA.out.tr (k.tr ka))
  replace T := Lib.hid ((k.tr ka).heap T.out id)
  replace Bg1 := Lib.hid ((k.tr ka).heap Bg1.out id)
  have Bg2 := Lib.hid (heap_alloc_new w2 (.cells #[.int .i64 p1, .int .i64 p2] 25))
  clear k ka RP
  replace c0 := (two_cells T.out).1
  replace c1 := (two_cells T.out).2.1
  go_wp2_with fail
  generalize w2.alloc (.cells #[.int .i64 p1, .int .i64 p2] 25) = vw2 at *
  generalize w2.heap.size = g2 at *
  refine (DR.out _).mono ?_
  rintro _ w3 ⟨rfl, k⟩
  have ka := Kp.alloc No w3 (.cells #[.int .i64 d1, .int .i64 d2] 25)
  replace KA := Lib.hid (KA.out.tr (k.tr ka))
  replace T := Lib.hid ((k.tr ka).heap T.out id)
  replace Bg1 := Lib.hid ((k.tr ka).heap Bg1.out id)
  replace Bg2 := Lib.hid ((k.tr ka).heap Bg2.out id)
  have Bg3 := Lib.hid (heap_alloc_new w3 (.cells #[.int .i64 d1, .int .i64 d2] 25))
  clear k ka DR
  replace c0 := (two_cells T.out).1
  replace c1 := (two_cells T.out).2.1
  go_wp2_with fail
  generalize w3.alloc (.cells #[.int .i64 d1, .int .i64 d2] 25) = vw3 at *
  generalize w3.heap.size = g3 at *
  refine (RD.out _).mono ?_
  rintro _ w4 ⟨rfl, k⟩
  have ka := Kp.alloc No w4 (.cells #[.int .i64 d1, .int .i64 d2] 25)
  replace KA := Lib.hid (KA.out.tr (k.tr ka))
  obtain ⟨x0, x1, _, _⟩ := two_cells (k.heap Bg1.out id)
  obtain ⟨y0, y1, _, _⟩ := two_cells (k.heap Bg2.out id)
  obtain ⟨z0, z1, _, _⟩ := two_cells (k.heap Bg3.out id)
  have l1 : g1 < w4.heap.size := (Array.getElem?_eq_some_iff.1 (k.heap Bg1.out id)).1
  have l2 : g2 < w4.heap.size := (Array.getElem?_eq_some_iff.1 (k.heap Bg2.out id)).1
  have l3 : g3 < w4.heap.size := (Array.getElem?_eq_some_iff.1 (k.heap Bg3.out id)).1
  clear k ka RD T Bg1 Bg2 Bg3 c0 c1
  go_wp2_with fail
  refine (AW.out _).mono ?_
  rintro _ w5 ⟨rfl, k⟩
  go_wp2_with fail
  go_ret
  exact ⟨rfl, KA.out.tr k⟩
end Go.Proofs.YtlieijnhaolnhaaGreat
