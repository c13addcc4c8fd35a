/- Chapter 13: Peak's closures: walks. -/
import Derived.Test.YtlieijnhaolnhaaCf
import Derived.Test.YtlieijnhaolnhaaSps
import Derived.Test.YtlieijnhaolnhaaCml
import Derived.Test.YtlieijnhaolnhaaPkp
import Derived.Test.YtlieijnhaolnhaaLibMake
import Derived.StillTailTactics
import Derived.Sort.Grow
namespace Go.Proofs.Ytlieijnhaolnhaa
open Go.RowKit Go.Kq

theorem spcheck_any (lo hi : Int) (w : World) : Calls Try.prog 26 #[.agg #[.int .i64 lo, .int .i64 hi]] w fun e w' => e = .returned (.int .i64 (ckE [(lo, hi)])) ∧ Kp No w w' := by
  have HCK := Lib.hid (fun g w0 hc => check_any [(lo, hi)] g 0 1 1 w0 rfl (by omega) hc)
  go_enter Try.func26, Try.ntmps26
  go_wp2_with fail
  refine (HCK.out _ _ (ck1_cells _ _ _ _ (by go_simp) (by go_simp))).mono ?_
  rintro e w1 ⟨rfl, hk⟩
  go_wp2_with fail
  go_ret
  exact ⟨rfl, ((Kp.alloc No w _).tr (Kp.alloc No _ _)).tr hk⟩
/-- A key that is not allowed. -/
def kyB (x : Int × Int) : Bool := decide (ckE [x] ≠ 0) || decide (x.1 < 0)
set_option maxHeartbeats 1000000 in
theorem peak1_any (x : Int × Int) (w : World) : Calls Try.prog 25 #[ivP x] w fun e w' => e = .returned (.bool (kyB x)) ∧ Kp No w w' := by
  obtain ⟨lo, hi⟩ := x
  unfold kyB
  have SC := Lib.hid (spcheck_any lo hi)
  generalize ckE [(lo, hi)] = z at *
  simp only [ivP]
  by_cases hz : z = 0
  · subst hz
    go_enter Try.func25, Try.ntmps25
    go_wp2_with fail
    refine (SC.out _).mono ?_
    rintro e w1 ⟨rfl, k1⟩
    obtain ⟨c0, c1, _, _⟩ := two_cells (k1.heap (at_new (n := w.heap.size) rfl) id)
    have KK := Lib.hid ((Kp.alloc No w _).tr k1)
    clear k1
    go_wp2
    go_ret
    exact ⟨ret_bool (by simp), KK.out⟩
  · have hb : (z == 0) = false := by rw [beq_eq_false_iff_ne]; exact hz
    have hb3 : (z != 0) = true := by rw [bne_iff_ne]; exact hz
    have hb2 : decide (z ≠ 0) = true := by simpa using hz
    rw [hb2]
    clear hz hb2
    go_enter Try.func25, Try.ntmps25
    go_wp2_with fail
    refine (SC.out _).mono ?_
    rintro e w1 ⟨rfl, k1⟩
    have KK := Lib.hid ((Kp.alloc No w _).tr k1)
    clear k1
    go_wp2
    go_ret
    exact ⟨ret_bool (by simp), KK.out⟩
/-- How two keys are ordered. -/
def cfK (K : List (Int × Int)) (i j : Nat) : Int := orL [cmpI (kHi K j) (kHi K i), cmpI (kLo K j) (kLo K i), cmpI i j]
theorem cfK_neg (K : List (Int × Int)) (i j : Nat) : decide (cfK K i j < 0) = bef K i j := by
  rw [Bool.eq_iff_iff]
  unfold bef cfK
  simp only [decide_eq_true_eq, orL]
  rcases cmpI_cases (kHi K j) (kHi K i) with ⟨h, h1⟩ | ⟨h, h1⟩ | ⟨h, h1⟩ <;> rcases cmpI_cases (kLo K j) (kLo K i) with ⟨k, k1⟩ | ⟨k, k1⟩ | ⟨k, k1⟩ <;> rcases cmpI_cases (i : Int) (j : Int) with ⟨m, m1⟩ | ⟨m, m1⟩ | ⟨m, m1⟩ <;> rw [h, k, m] <;> simp <;> omega
theorem rdi3 (w : World) (x y z : Int) : RdI .i64 (w.alloc (.cells #[.int .i64 x, .int .i64 y, .int .i64 z] 3)) (some ⟨w.heap.size, 0, none⟩) 3 [x, y, z] := by
  refine ⟨rfl, fun i u hu => ?_⟩
  match i, hu with
  | 0, hu => simp at hu; subst hu; exact ⟨_, _, rfl, by simp, by go_simp⟩
  | 1, hu => simp at hu; subst hu; exact ⟨_, _, rfl, by simp, by go_simp⟩
  | 2, hu => simp at hu; subst hu; exact ⟨_, _, rfl, by simp, by go_simp⟩
  | n + 3, hu => simp at hu
def natV (i : Nat) : Value := .int .i64 i
set_option maxHeartbeats 4000000 in
set_option maxRecDepth 100000 in
theorem peak2_any (B n cap : Nat) (A : Option Addr) (K : List (Int × Int)) (i j : Nat) (w : World) (hB : w.cell? ⟨B, 0, none⟩ = some (.slice A n cap)) (hK : Rd ivC 2 w A n K) (hi : i < n) (hj : j < n) (_hn : n ≤ 1000) :
    Calls Try.prog 28 #[natV i, natV j, .pointer (some ⟨B, 0, none⟩)] w fun e w' => e = .returned (.int .i64 (cfK K i j)) ∧ ∃ q os, w' = Sort.grow (w.drewN q) os := by
  obtain ⟨⟨x0, x1⟩, hx⟩ : ∃ x, K[i]? = some x := ⟨_, List.getElem?_eq_getElem (by have := hK.1; omega)⟩
  obtain ⟨⟨y0, y1⟩, hy⟩ : ∃ x, K[j]? = some x := ⟨_, List.getElem?_eq_getElem (by have := hK.1; omega)⟩
  obtain ⟨b, o, rfl, _, hc⟩ := hK.2 i _ hx
  obtain ⟨b', o', he, _, hd⟩ := hK.2 j _ hy
  cases he
  have c0 := hc 0 _ rfl
  have c1 := hc 1 _ rfl
  have d0 := hd 0 _ rfl
  have d1 := hd 1 _ rfl
  simp only [Nat.add_zero] at c0 d0
  unfold cfK
  have e1 : kHi K i = x1 := by unfold kHi; rw [List.getD_eq_getElem?_getD, hx]; rfl
  have e2 : kLo K i = x0 := by unfold kLo; rw [List.getD_eq_getElem?_getD, hx]; rfl
  have e3 : kHi K j = y1 := by unfold kHi; rw [List.getD_eq_getElem?_getD, hy]; rfl
  have e4 : kLo K j = y0 := by unfold kLo; rw [List.getD_eq_getElem?_getD, hy]; rfl
  rw [e1, e2, e3, e4]
  have hi0 : (0 : Int) ≤ (i : Int) := by omega
  have hj0 : (0 : Int) ≤ (j : Int) := by omega
  have hin : (i : Int) < (n : Int) := by omega
  have hjn : (j : Int) < (n : Int) := by omega
  have ti : ((i : Nat) : Int).toNat = i := by omega
  have tj : ((j : Nat) : Int).toNat = j := by omega
  clear e1 e2 e3 e4 hx hy hc hd hK _hn hi hj
  simp only [natV]
  go_enter Try.func28, Try.ntmps28
  go_wp2_with fail
  refine wp_region_still_tail 25 (by kernel_rfl) (by kernel_rfl) ?_
  simp only [List.take_succ_cons, List.take_zero, List.drop_succ_cons, List.drop_zero]
  repeat (first | still_step | still_call (cmpL_any _ _ _) | still_call (cmpI_any _ _ _))
  refine wpStill_nil ?_
  change wpList _ _ _ _ _ w.drew
  have HW := Lib.hid (show ∃ q os, w.drew = Sort.grow (w.drewN q) os from ⟨1, #[], by rw [Sort.grow_empty]; rfl⟩)
  clear c0 c1 d0 d1 hB
  generalize w.drew = w2 at HW ⊢
  go_wp2_with (go_at_call 29; refine (or_any _ 3 3 _ _ (rdi3 _ _ _ _) (by omega)).mono ?_; rintro e w' ⟨rfl, rfl⟩)
  go_ret
  obtain ⟨q, os, h⟩ := HW.out
  exact ⟨rfl, q, _, by rw [Sort.alloc_eq_grow, h, Sort.grow_grow]⟩
end Go.Proofs.Ytlieijnhaolnhaa
