/- Chapter 33: the walks of the reference's Best and of the statement TransferBest. -/
import Derived.Test.YtfflhlmnfhfcgaaRbst
namespace Go.Proofs.Ytfflhlmnfhfcgaa
open Go.RowKit Go.Kq

set_option maxHeartbeats 1000000 in
theorem RBest_any (A Y : Option Addr) (n m ca cb : Nat) (xs ys : List Vc) (most : Int) (w : World) (hx : RdV w A n xs) (hy : RdV w Y m ys) :
    Calls Try.prog 11 #[.slice A n ca, .slice Y m cb, .int .i64 most] w fun e w' => ∃ v, e = .returned (.tuple #[v, .int .i64 (bestV xs ys most).2.1, .int .i64 (bestV xs ys most).2.2]) ∧ w'.ownsRow w.heap.size 3 1 v (bestV xs ys most).1.length ((bestV xs ys most).1.map natV) ∧ Kp No w w' := by
  by_cases he : chk xs ys 14 = 0
  · by_cases hm : most < 0 ∨ 14 < most
    · have hv : bestV xs ys most = ([], 0, 2) := by unfold bestV; rw [if_neg (by omega), if_pos hm]
      rw [hv]
      rcases Decidable.em (most < 0) with h1 | h1
      · go_enter Try.func11, Try.ntmps11
        go_wp2_with fail
        refine (Check_any A Y n m ca cb xs ys 14 _ hx hy (by omega)).mono ?_
        rintro e w1 ⟨rfl, hk⟩
        rw [he]
        go_wp2_with fail
        refine bodyPost_ret (v := .tuple #[.slice none 0 0, .int .i64 0, .int .i64 2]) (by simp [results, Try.results11, go_sem]) rfl ⟨_, rfl, ⟨rfl, .inl ⟨rfl, rfl⟩⟩, hk⟩
      · have h2 : 14 < most := hm.resolve_left h1
        go_enter Try.func11, Try.ntmps11
        go_wp2_with fail
        refine (Check_any A Y n m ca cb xs ys 14 _ hx hy (by omega)).mono ?_
        rintro e w1 ⟨rfl, hk⟩
        rw [he]
        go_wp2_with fail
        refine bodyPost_ret (v := .tuple #[.slice none 0 0, .int .i64 0, .int .i64 2]) (by simp [results, Try.results11, go_sem]) rfl ⟨_, rfl, ⟨rfl, .inl ⟨rfl, rfl⟩⟩, hk⟩
    · obtain ⟨z1, z2, z3, z4⟩ := chk_zero he
      have sx := bad_sane z3
      have sy := bad_sane z4
      have hxl := hx.1
      have hyl := hy.1
      have hv : bestV xs ys most = ((refS (Cst xs ys) m most.toNat (2 ^ m - 1)).1, (refS (Cst xs ys) m most.toNat (2 ^ m - 1)).2, 0) := by unfold bestV; rw [if_neg (by omega), if_neg hm, hyl, search_same]
      rw [hv]
      generalize hr : refS (Cst xs ys) m most.toNat (2 ^ m - 1) = r
      obtain ⟨o, c⟩ := r
      have HR := Lib.hid hr
      clear hr
      have h1 : ¬ most < 0 := fun h => hm (.inl h)
      have h2 : ¬ 14 < most := fun h => hm (.inr h)
      clear hm hv z3 z4
      go_enter Try.func11, Try.ntmps11
      go_wp2_with fail
      refine (Check_any A Y n m ca cb xs ys 14 _ hx hy (by omega)).mono ?_
      rintro e w1 ⟨rfl, hk⟩
      rw [he]
      go_wp2_with fail
      refine (rbest_any A Y n m ca cb xs ys most w1 (hx.no hk) (hy.no hk) (by omega) (by omega) (by omega) sx sy).mono ?_
      rintro e w2 ⟨v, out, c', rfl, hf, hown, hk2⟩
      have hf2 := HR.out.symm.trans hf
      cases hf2
      have HO := Lib.hid hown
      clear hown hf
      go_wp2_with fail
      refine bodyPost_ret (v := .tuple #[v, .int .i64 c, .int .i64 0]) (by simp [results, Try.results11, go_sem]) rfl ⟨_, rfl, own_mono HO.out hk.size, hk.tr hk2⟩
  · have hv : bestV xs ys most = ([], 0, chk xs ys 14) := by unfold bestV; rw [if_pos he]
    rw [hv]
    have heb : (chk xs ys 14 == 0) = false := by rw [beq_eq_false_iff_ne]; exact he
    go_enter Try.func11, Try.ntmps11
    go_wp2_with fail
    refine (Check_any A Y n m ca cb xs ys 14 _ hx hy (by omega)).mono ?_
    rintro e w1 ⟨rfl, hk⟩
    go_wp2_with fail
    refine bodyPost_ret (v := .tuple #[.slice none 0 0, .int .i64 0, .int .i64 (chk xs ys 14)]) (by simp [results, Try.results11, go_sem]) rfl ⟨_, rfl, ⟨rfl, .inl ⟨rfl, rfl⟩⟩, hk⟩

theorem best_len {xs ys : List Vc} {most : Int} : (bestV xs ys most).1.length ≤ 100 := by
  rcases hb : bestV xs ys most with ⟨out, c, er⟩
  by_cases he : er = 0
  · subst he
    obtain ⟨_, _, h1, _, _, h2, _⟩ := best_facts hb
    show out.length ≤ 100
    omega
  · unfold bestV at hb
    split at hb
    · cases hb
      simp
    · split at hb
      · cases hb
        simp
      · cases hb
        exact absurd rfl he
set_option maxHeartbeats 4000000 in
set_option maxRecDepth 100000 in
theorem tbest_any (A Y : Option Addr) (n m ca cb : Nat) (xs ys : List Vc) (most : Int) (w : World) (hx : RdV w A n xs) (hy : RdV w Y m ys) :
    Calls Try.prog 3 #[.slice A n ca, .slice Y m cb, .int .i64 most] w fun e w' => e = .returned (.bool true) ∧ Kp No w w' := by
  have hlen := best_len (xs := xs) (ys := ys) (most := most)
  go_enter Try.func3, Try.ntmps3
  go_wp2_with fail
  refine (Best_any A Y n m ca cb xs ys most _ hx hy).mono ?_
  generalize hb : bestV xs ys most = r at *
  obtain ⟨out, c, er⟩ := r
  have HB := Lib.hid hb
  clear hb
  rintro e w1 ⟨v, rfl, ho1, hk1⟩
  obtain ⟨a1, c1, rfl, hc1, hi1⟩ := own_rdi ho1
  have I1 := Lib.hid hi1
  clear hi1 ho1
  go_wp2_with fail
  refine (RBest_any A Y n m ca cb xs ys most _ (hx.no hk1) (hy.no hk1)).mono ?_
  rw [HB.out]
  rintro e w2 ⟨v2, rfl, ho2, hk2⟩
  obtain ⟨a2, c2, rfl, hc2, hi2⟩ := own_rdi ho2
  have I2 := Lib.hid hi2
  clear hi2 ho2
  go_wp2_with fail
  refine (same_any _ _ out.length out.length c1 c2 _ _ _ (I1.out.no hk2) I2.out (by have : out.length ≤ 100 := hlen; omega)).mono ?_
  rw [show decide (List.map Int.ofNat out = List.map Int.ofNat out) = true from decide_eq_true rfl]
  rintro e w3 ⟨rfl, hk3⟩
  go_wp2_with fail
  refine (awake_any _).mono ?_
  rintro e w4 ⟨rfl, hk4⟩
  go_wp2_with fail
  go_ret
  exact ⟨rfl, hk1.tr (hk2.tr (hk3.tr hk4))⟩
end Go.Proofs.Ytfflhlmnfhfcgaa
