/- Chapter 33: the walks of Best and Cost. -/
import Derived.Test.YtfflhlmnfhfcgaaBst
import Derived.Test.YtfflhlmnfhfcgaaPl
namespace Go.Proofs.Ytfflhlmnfhfcgaa
open Go.RowKit Go.Kq

theorem chk_zero {xs ys : List Vc} {most : Int} (h : chk xs ys most = 0) : xs.length ≤ 24 ∧ (ys.length : Int) ≤ most ∧ (∀ v ∈ xs, v.bad = false) ∧ (∀ v ∈ ys, v.bad = false) := by
  unfold chk at h
  split at h
  · cases h
  · split at h
    · cases h
    · rename_i h1 h2
      simp at h2
      exact ⟨by omega, by omega, h2.1, h2.2⟩
theorem bad_sane {vs : List Vc} (h : ∀ v ∈ vs, v.bad = false) : Sane vs := fun v hv => by
  have := h v hv
  simp [Vc.bad] at this
  omega
def bestV (xs ys : List Vc) (most : Int) : List Nat × Int × Int :=
  if chk xs ys 14 ≠ 0 then ([], 0, chk xs ys 14) else if most < 0 ∨ 14 < most then ([], 0, 2) else
    (((subsAt ys.length most.toNat ys.length [] 0).foldl (better (Cst xs ys)) ([], Cst xs ys [])).1, ((subsAt ys.length most.toNat ys.length [] 0).foldl (better (Cst xs ys)) ([], Cst xs ys [])).2, 0)
set_option maxHeartbeats 1000000 in
theorem Best_any (A Y : Option Addr) (n m ca cb : Nat) (xs ys : List Vc) (most : Int) (w : World) (hx : RdV w A n xs) (hy : RdV w Y m ys) :
    Calls Try.prog 10 #[.slice A n ca, .slice Y m cb, .int .i64 most] w fun e w' => ∃ v, e = .returned (.tuple #[v, .int .i64 (bestV xs ys most).2.1, .int .i64 (bestV xs ys most).2.2]) ∧ w'.ownsRow w.heap.size 3 1 v (bestV xs ys most).1.length ((bestV xs ys most).1.map natV) ∧ Kp No w w' := by
  by_cases he : chk xs ys 14 = 0
  · by_cases hm : most < 0 ∨ 14 < most
    · have hv : bestV xs ys most = ([], 0, 2) := by unfold bestV; rw [if_neg (by omega), if_pos hm]
      rw [hv]
      rcases Decidable.em (most < 0) with h1 | h1
      · go_enter Try.func10, Try.ntmps10
        go_wp2_with fail
        refine (check_any A Y n m ca cb xs ys 14 _ hx hy (by omega)).mono ?_
        rintro e w1 ⟨rfl, hk⟩
        rw [he]
        go_wp2_with fail
        refine bodyPost_ret (v := .tuple #[.slice none 0 0, .int .i64 0, .int .i64 2]) (by simp [results, Try.results10, go_sem]) rfl ⟨_, rfl, ⟨rfl, .inl ⟨rfl, rfl⟩⟩, hk⟩
      · have h2 : 14 < most := hm.resolve_left h1
        go_enter Try.func10, Try.ntmps10
        go_wp2_with fail
        refine (check_any A Y n m ca cb xs ys 14 _ hx hy (by omega)).mono ?_
        rintro e w1 ⟨rfl, hk⟩
        rw [he]
        go_wp2_with fail
        refine bodyPost_ret (v := .tuple #[.slice none 0 0, .int .i64 0, .int .i64 2]) (by simp [results, Try.results10, go_sem]) rfl ⟨_, rfl, ⟨rfl, .inl ⟨rfl, rfl⟩⟩, hk⟩
    · obtain ⟨z1, z2, z3, z4⟩ := chk_zero he
      have sx := bad_sane z3
      have sy := bad_sane z4
      have hxl := hx.1
      have hyl := hy.1
      have hc := costs_of sx sy z1 (by omega)
      have hv : bestV xs ys most = (((subsAt m most.toNat m [] 0).foldl (better (Cst xs ys)) ([], Cst xs ys [])).1, ((subsAt m most.toNat m [] 0).foldl (better (Cst xs ys)) ([], Cst xs ys [])).2, 0) := by unfold bestV; rw [if_neg (by omega), if_neg hm, hyl]
      rw [hv]
      generalize hr : (subsAt m most.toNat m [] 0).foldl (better (Cst xs ys)) ([], Cst xs ys []) = r
      obtain ⟨o, c⟩ := r
      have HR := Lib.hid hr
      clear hr
      have h1 : ¬ most < 0 := fun h => hm (.inl h)
      have h2 : ¬ 14 < most := fun h => hm (.inr h)
      clear hm hv z3 z4
      go_enter Try.func10, Try.ntmps10
      go_wp2_with fail
      refine (check_any A Y n m ca cb xs ys 14 _ hx hy (by omega)).mono ?_
      rintro e w1 ⟨rfl, hk⟩
      rw [he]
      go_wp2_with fail
      refine (best_any A Y n m ca cb xs ys most _ _ w1 (hx.no hk) (hy.no hk) (by omega) (by omega) (by omega) sx hc (fun k hk => ?_)).mono ?_
      · rw [keys_btw] at hk
        rw [mem_univ]
        rcases hk with ⟨v, hv, e⟩ | ⟨v, hv, _⟩
        · exact ⟨v, by simp [hv], e⟩
        · cases hv
      rintro e w2 ⟨v, out, c', rfl, hf, hown, hol, hk2⟩
      have hf2 := HR.out.symm.trans hf
      cases hf2
      have HO := Lib.hid hown
      clear hown hf
      go_wp2_with fail
      refine bodyPost_ret (v := .tuple #[v, .int .i64 c, .int .i64 0]) (by simp [results, Try.results10, go_sem]) rfl ⟨_, rfl, own_mono HO.out hk.size, hk.tr hk2⟩
  · have hv : bestV xs ys most = ([], 0, chk xs ys 14) := by unfold bestV; rw [if_pos he]
    rw [hv]
    have heb : (chk xs ys 14 == 0) = false := by rw [beq_eq_false_iff_ne]; exact he
    go_enter Try.func10, Try.ntmps10
    go_wp2_with fail
    refine (check_any A Y n m ca cb xs ys 14 _ hx hy (by omega)).mono ?_
    rintro e w1 ⟨rfl, hk⟩
    go_wp2_with fail
    refine bodyPost_ret (v := .tuple #[.slice none 0 0, .int .i64 0, .int .i64 (chk xs ys 14)]) (by simp [results, Try.results10, go_sem]) rfl ⟨_, rfl, ⟨rfl, .inl ⟨rfl, rfl⟩⟩, hk⟩
theorem Cost_any (A Y : Option Addr) (n m ca cb : Nat) (xs ys : List Vc) (w : World) (hx : RdV w A n xs) (hy : RdV w Y m ys) :
    Calls Try.prog 16 #[.slice A n ca, .slice Y m cb] w fun e w' => ∃ c : Int, e = .returned (.tuple #[.int .i64 c, .int .i64 (chk xs ys 24)]) ∧ (chk xs ys 24 ≠ 0 → c = 0) ∧ (chk xs ys 24 = 0 → IsCost (btw xs ys) c) ∧ Kp No w w' := by
  by_cases he : chk xs ys 24 = 0
  · obtain ⟨z1, z2, z3, z4⟩ := chk_zero he
    have sx := bad_sane z3
    have sy := bad_sane z4
    have hxl := hx.1
    have hyl := hy.1
    clear z3 z4
    rw [he]
    go_enter Try.func16, Try.ntmps16
    go_wp2_with fail
    refine (check_any A Y n m ca cb xs ys 24 _ hx hy (by omega)).mono ?_
    rintro e w1 ⟨rfl, hk⟩
    rw [he]
    go_wp2_with fail
    refine (between_any A Y n m ca cb xs ys w1 (hx.no hk) (hy.no hk) (by omega) (by omega) sx sy).mono ?_
    rintro e w2 ⟨g, rfl, hg, hmap, hk2⟩
    have hl : (btw xs ys).length ≤ 1000 := by
      have h1 := len_addAll (-1) ys (addAll 1 [] xs)
      have h2 := len_addAll 1 xs []
      simp [btw] at h1 h2 ⊢
      omega
    have hb := btw_bd sx sy
    go_wp2_with fail
    refine (cost_any g (btw xs ys) w2 hmap hl (fun k => by have := hb k; omega)).mono ?_
    rintro e w3 ⟨⟨c, rfl, hIs⟩, hk3⟩
    have HI := Lib.hid hIs
    clear hIs hb
    go_wp2_with fail
    refine bodyPost_ret (v := .tuple #[.int .i64 c, .int .i64 0]) (by simp [results, Try.results16, go_sem]) rfl ⟨_, rfl, fun h => absurd rfl h, fun _ => HI.out, hk.tr (hk2.tr hk3)⟩
  · have heb : (chk xs ys 24 == 0) = false := by rw [beq_eq_false_iff_ne]; exact he
    have HH := Lib.hid he
    clear he
    go_enter Try.func16, Try.ntmps16
    go_wp2_with fail
    refine (check_any A Y n m ca cb xs ys 24 _ hx hy (by omega)).mono ?_
    rintro e w1 ⟨rfl, hk⟩
    go_wp2_with fail
    refine bodyPost_ret (v := .tuple #[.int .i64 0, .int .i64 (chk xs ys 24)]) (by simp [results, Try.results16, go_sem]) rfl ⟨0, rfl, fun _ => rfl, fun h => absurd h HH.out, hk⟩
end Go.Proofs.Ytfflhlmnfhfcgaa
