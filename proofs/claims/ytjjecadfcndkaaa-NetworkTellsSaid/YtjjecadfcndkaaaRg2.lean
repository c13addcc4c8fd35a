/- Chapter 14: the walk of the reference's Greatest. -/
import Derived.Test.YtjjecadfcndkaaaRgr
import Derived.RegionTactic
namespace Go.Proofs.Ytjjecadfcndkaaa
open Go.RowKit Go.Kq Go.Flow

theorem rcheck_bad (Z : Nz) (c : Int) (hc : ChkIs Z c) (A B : Option Addr) (ca cb : Nat) (w : World) (hR : RdNz w A B Z) :
    Calls Try.prog 16 #[netZ Z A B ca cb] w fun e w' => e = .returned (.int .i64 c) ∧ Kp No w w' := by
  refine (rCheck_any Z A B ca cb w hR).mono ?_
  rintro e w' ⟨c', rfl, hc', hk⟩
  rw [hc'.uniq hc]
  exact ⟨rfl, hk⟩
theorem rcheck_ok (N : Net) (hN : N.Ok) (A B : Option Addr) (ca cb : Nat) (w : World) (hR : RdNet w A B N) :
    Calls Try.prog 16 #[netV N A B ca cb] w fun e w' => e = .returned (.int .i64 0) ∧ Kp No w w' := by
  have h := rcheck_bad (nz N) 0 (chk_ok hN) A B ca cb w (rdnz_of hR)
  rwa [netZ_nz] at h
theorem two_new (w : World) (xs ys : Array Value) (s t : TypeId) : Kp No w ((w.alloc (.cells xs s)).alloc (.cells ys t)) ∧ ((w.alloc (.cells xs s)).alloc (.cells ys t)).heap[w.heap.size]? = some (.cells xs s (0, 0)) ∧ ((w.alloc (.cells xs s)).alloc (.cells ys t)).heap[w.heap.size + 1]? = some (.cells ys t (0, 0)) :=
  ⟨(Kp.alloc No _ _).tr (Kp.alloc No _ _), (Kp.alloc No _ _).heap (heap_alloc_new w (.cells xs s)) (fun h => h), by
    have := heap_alloc_new (w.alloc (.cells xs s)) (.cells ys t)
    simpa using this⟩
attribute [local go_sem ↓] Go.wp_at_zero Go.wp_at_succ
set_option maxHeartbeats 4000000 in
theorem rGreatest_ok (N : Net) (hN : N.Ok) (A B : Option Addr) (ca cb : Nat) (w : World) (hR : RdNet w A B N) :
    Calls Try.prog 12 #[netV N A B ca cb] w fun e w' => ∃ lo hi, e = .returned (.tuple #[.agg #[.int .i64 lo, .int .i64 hi], .int .i64 0]) ∧ Gr N false lo ∧ Gr N true hi ∧ Kp No w w' := by
  have H1 := Lib.hid (rcheck_ok N hN A B ca cb)
  have H2 := Lib.hid (fun h W hR => greatest_any N hN A B ca cb h W hR)
  have HR := Lib.hid hR
  clear hN hR
  unfold netV at H1 H2 ⊢
  go_enter Try.func12, Try.ntmps12
  go_wp2_with fail
  obtain ⟨hk0, b0, b1⟩ := two_new w #[.int .i64 N.n, .slice A N.tr.length ca, .slice B N.ch.length cb] #[.int .i64 0, .int .i64 0] 25 29
  refine (H1.out _ (HR.out.no hk0)).mono ?_
  rintro e w1 ⟨rfl, hk1⟩
  have K1 := Lib.hid (hk0.tr hk1)
  have B0 := Lib.hid (hk1.heap b0 (fun h => h))
  have B1 := Lib.hid (hk1.heap b1 (fun h => h))
  obtain ⟨x0, x1, x2⟩ := box3 B0.out
  obtain ⟨z0, z1⟩ := box2 B1.out
  have hs1 := (Array.getElem?_eq_some_iff.1 B1.out).1
  have hs0 := (Array.getElem?_eq_some_iff.1 B0.out).1
  clear hk0 b0 b1 hk1
  go_wp2_with fail
  go_region_held3 (fun w' => w'.cell? ⟨w.heap.size, 0, none⟩ = some (.int .i64 N.n) ∧ w'.cell? ⟨w.heap.size, 1, none⟩ = some (.slice A N.tr.length ca) ∧ w'.cell? ⟨w.heap.size, 2, none⟩ = some (.slice B N.ch.length cb)) (first | exact ⟨c0, c1, c2⟩ | go_keep)
    ((first | (go_at_call 30; refine (H2.out _ _ (HR.out.no (K1.out.tr (Kp.drew No _)))).mono ?_; rintro e w2 ⟨d, rfl, hg, hk2⟩; have KQ := (Kp.drew No _).tr hk2; have GG := Lib.hid hg; have c0 := KQ.cell x0 (fun h => h); have c1 := KQ.cell x1 (fun h => h); have c2 := KQ.cell x2 (fun h => h); clear hg hk2) | (go_at_call 30; refine (H2.out _ _ (HR.out.no (K1.out.tr KQ))).mono ?_; rintro e w3 ⟨d', rfl, hg, hk3⟩; have GH := Lib.hid hg; have KR := Lib.hid (KQ.tr hk3); have c0 := KR.out.cell x0 (fun h => h); have c1 := KR.out.cell x1 (fun h => h); have c2 := KR.out.cell x2 (fun h => h); have C1 := Lib.hid (KR.out.heap B1.out (fun h => h)); obtain ⟨q0, q1⟩ := box2 C1.out; have hq0 : w3.frozen? ⟨w.heap.size + 1, 0, none⟩ = false := (by simp [World.frozen?, C1.out]); have hq1 : w3.frozen? ⟨w.heap.size + 1, 1, none⟩ = false := (by simp [World.frozen?, C1.out]); have hqs := (Array.getElem?_eq_some_iff.1 C1.out).1; clear hg hk3)))
  go_wp2_with fail
  · refine bodyPost_ret (v := .tuple #[.agg #[.int .i64 d, .int .i64 d'], .int .i64 0]) (by simp [results, Try.results12, go_sem, q0, q1]) rfl ⟨_, _, rfl, GG.out, GH.out, ?_⟩
    exact (K1.out.tr KR.out).trans ((kp_setOne _ (w.heap.size + 1) _ _).tr (kp_setOne _ (w.heap.size + 1) _ _)) fun k hk e => by
      have e2 : k = w.heap.size + 1 := e
      omega
set_option maxHeartbeats 2000000 in
theorem rGreatest_bad (Z : Nz) (c : Int) (hc : ChkIs Z c) (hz : c ≠ 0) (A B : Option Addr) (ca cb : Nat) (w : World) (hR : RdNz w A B Z) :
    Calls Try.prog 12 #[netZ Z A B ca cb] w fun e w' => e = .returned (.tuple #[.agg #[.int .i64 0, .int .i64 0], .int .i64 c]) ∧ Kp No w w' := by
  have H1 := Lib.hid (rcheck_bad Z c hc A B ca cb)
  have HR := Lib.hid hR
  have d1 : (c != 0) = true := by rw [bne_iff_ne]; exact hz
  have d2 : (c == 0) = false := by rw [beq_eq_false_iff_ne]; exact hz
  clear hc hz hR
  unfold netZ at H1 ⊢
  go_enter Try.func12, Try.ntmps12
  go_wp2_with fail
  obtain ⟨hk0, b0, b1⟩ := two_new w #[.int .i64 Z.n, .slice A Z.tr.length ca, .slice B Z.ch.length cb] #[.int .i64 0, .int .i64 0] 25 29
  refine (H1.out _ (HR.out.no hk0)).mono ?_
  rintro e w1 ⟨rfl, hk1⟩
  have K1 := Lib.hid (hk0.tr hk1)
  have B1 := Lib.hid (hk1.heap b1 (fun h => h))
  obtain ⟨z0, z1⟩ := box2 B1.out
  have f0 : w1.frozen? ⟨w.heap.size + 1, 0, none⟩ = false := by simp [World.frozen?, B1.out]
  have f1 : w1.frozen? ⟨w.heap.size + 1, 1, none⟩ = false := by simp [World.frozen?, B1.out]
  clear hk0 b0 b1 hk1
  go_wp2_with fail
  refine bodyPost_ret (v := .tuple #[.agg #[.int .i64 0, .int .i64 0], .int .i64 c]) (by simp [results, Try.results12, go_sem, z0, z1]) rfl ⟨rfl, ?_⟩
  exact K1.out.trans ((kp_setOne _ (w.heap.size + 1) _ _).tr (kp_setOne _ (w.heap.size + 1) _ _)) fun k hk e => by
    have e2 : k = w.heap.size + 1 := e
    omega
end Go.Proofs.Ytjjecadfcndkaaa
