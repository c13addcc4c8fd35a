/- Chapter 33: the walks of Best and Cost. · Chapter 33: walks of the statements' own functions: valid, Check, sameInts. -/
import Derived.Test.YtfflhlmnfhfcgaaXBst
import Derived.Test.YtfflhlmnfhfcgaaXPl
namespace Go.Proofs.Ytfflhlmnfhfcgaa
open Go.RowKit Go.Kq

theorem chk_zero {xs ys : List Vc} {most : Int} (h : chk xs ys most = 0) : xs.length ≤ 24 ∧ (ys.length : Int) ≤ most ∧ (∀ v ∈ xs, v.bad = false) ∧ (∀ v ∈ ys, v.bad = false) := by
  unfold chk at h
  split at h
  · cases h
  · split at h
    · cases h
    · rename_i h1 h2
      simp at h2
      exact ⟨by omega, by omega, h2.1, h2.2⟩
theorem bad_sane {vs : List Vc} (h : ∀ v ∈ vs, v.bad = false) : Sane vs := fun v hv => by
  have := h v hv
  simp [Vc.bad] at this
  omega
def bestV (xs ys : List Vc) (most : Int) : List Nat × Int × Int :=
  if chk xs ys 14 ≠ 0 then ([], 0, chk xs ys 14) else if most < 0 ∨ 14 < most then ([], 0, 2) else
    (((subsAt ys.length most.toNat ys.length [] 0).foldl (better (Cst xs ys)) ([], Cst xs ys [])).1, ((subsAt ys.length most.toNat ys.length [] 0).foldl (better (Cst xs ys)) ([], Cst xs ys [])).2, 0)
set_option maxHeartbeats 1000000 in
theorem Best_any (A Y : Option Addr) (n m ca cb : Nat) (xs ys : List Vc) (most : Int) (w : World) (hx : RdV w A n xs) (hy : RdV w Y m ys) :
    Calls Try.prog 10 #[.slice A n ca, .slice Y m cb, .int .i64 most] w fun e w' => ∃ v, e = .returned (.tuple #[v, .int .i64 (bestV xs ys most).2.1, .int .i64 (bestV xs ys most).2.2]) ∧ w'.ownsRow w.heap.size 3 1 v (bestV xs ys most).1.length ((bestV xs ys most).1.map natV) ∧ Kp No w w' := by
  by_cases he : chk xs ys 14 = 0
  · by_cases hm : most < 0 ∨ 14 < most
    · have hv : bestV xs ys most = ([], 0, 2) := by unfold bestV; rw [if_neg (by omega), if_pos hm]
      rw [hv]
      rcases Decidable.em (most < 0) with h1 | h1
      · go_enter Try.func10, Try.ntmps10
        go_wp2_with fail
        refine (check_any A Y n m ca cb xs ys 14 _ hx hy (by omega)).mono ?_
        rintro e w1 ⟨rfl, hk⟩
        rw [he]
        go_wp2_with fail
        refine bodyPost_ret (v := .tuple #[.slice none 0 0, .int .i64 0, .int .i64 2]) (by simp [results, Try.results10, go_sem]) rfl ⟨_, rfl, ⟨rfl, .inl ⟨rfl, rfl⟩⟩, hk⟩
      · have h2 : 14 < most := hm.resolve_left h1
        go_enter Try.func10, Try.ntmps10
        go_wp2_with fail
        refine (check_any A Y n m ca cb xs ys 14 _ hx hy (by omega)).mono ?_
        rintro e w1 ⟨rfl, hk⟩
        rw [he]
        go_wp2_with fail
        refine bodyPost_ret (v := .tuple #[.slice none 0 0, .int .i64 0, .int .i64 2]) (by simp [results, Try.results10, go_sem]) rfl ⟨_, rfl, ⟨rfl, .inl ⟨rfl, rfl⟩⟩, hk⟩
    · obtain ⟨z1, z2, z3, z4⟩ := chk_zero he
      have sx := bad_sane z3
      have sy := bad_sane z4
      have hxl := hx.1
      have hyl := hy.1
      have hc := costs_of sx sy z1 (by omega)
      have hv : bestV xs ys most = (((subsAt m most.toNat m [] 0).foldl (better (Cst xs ys)) ([], Cst xs ys [])).1, ((subsAt m most.toNat m [] 0).foldl (better (Cst xs ys)) ([], Cst xs ys [])).2, 0) := by unfold bestV; rw [if_neg (by omega), if_neg hm, hyl]
      rw [hv]
      generalize hr : (subsAt m most.toNat m [] 0).foldl (better (Cst xs ys)) ([], Cst xs ys []) = r
      obtain ⟨o, c⟩ := r
      have HR := Lib.hid hr
      clear hr
      have h1 : ¬ most < 0 := fun h => hm (.inl h)
      have h2 : ¬ 14 < most := fun h => hm (.inr h)
      clear hm hv z3 z4
      go_enter Try.func10, Try.ntmps10
      go_wp2_with fail
      refine (check_any A Y n m ca cb xs ys 14 _ hx hy (by omega)).mono ?_
      rintro e w1 ⟨rfl, hk⟩
      rw [he]
      go_wp2_with fail
      refine (best_any A Y n m ca cb xs ys most _ _ w1 (hx.no hk) (hy.no hk) (by omega) (by omega) (by omega) sx hc (fun k hk => ?_)).mono ?_
      · rw [keys_btw] at hk
        rw [mem_univ]
        rcases hk with ⟨v, hv, e⟩ | ⟨v, hv, _⟩
        · exact ⟨v, by simp [hv], e⟩
        · cases hv
      rintro e w2 ⟨v, out, c', rfl, hf, hown, hol, hk2⟩
      have hf2 := HR.out.symm.trans hf
      cases hf2
      have HO := Lib.hid hown
      clear hown hf
      go_wp2_with fail
      refine bodyPost_ret (v := .tuple #[v, .int .i64 c, .int .i64 0]) (by simp [results, Try.results10, go_sem]) rfl ⟨_, rfl, own_mono HO.out hk.size, hk.tr hk2⟩
  · have hv : bestV xs ys most = ([], 0, chk xs ys 14) := by unfold bestV; rw [if_pos he]
    rw [hv]
    have heb : (chk xs ys 14 == 0) = false := by rw [beq_eq_false_iff_ne]; exact he
    go_enter Try.func10, Try.ntmps10
    go_wp2_with fail
    refine (check_any A Y n m ca cb xs ys 14 _ hx hy (by omega)).mono ?_
    rintro e w1 ⟨rfl, hk⟩
    go_wp2_with fail
    refine bodyPost_ret (v := .tuple #[.slice none 0 0, .int .i64 0, .int .i64 (chk xs ys 14)]) (by simp [results, Try.results10, go_sem]) rfl ⟨_, rfl, ⟨rfl, .inl ⟨rfl, rfl⟩⟩, hk⟩
theorem Cost_any (A Y : Option Addr) (n m ca cb : Nat) (xs ys : List Vc) (w : World) (hx : RdV w A n xs) (hy : RdV w Y m ys) :
    Calls Try.prog 16 #[.slice A n ca, .slice Y m cb] w fun e w' => ∃ c : Int, e = .returned (.tuple #[.int .i64 c, .int .i64 (chk xs ys 24)]) ∧ (chk xs ys 24 ≠ 0 → c = 0) ∧ (chk xs ys 24 = 0 → IsCost (btw xs ys) c) ∧ Kp No w w' := by
  by_cases he : chk xs ys 24 = 0
  · obtain ⟨z1, z2, z3, z4⟩ := chk_zero he
    have sx := bad_sane z3
    have sy := bad_sane z4
    have hxl := hx.1
    have hyl := hy.1
    clear z3 z4
    rw [he]
    go_enter Try.func16, Try.ntmps16
    go_wp2_with fail
    refine (check_any A Y n m ca cb xs ys 24 _ hx hy (by omega)).mono ?_
    rintro e w1 ⟨rfl, hk⟩
    rw [he]
    go_wp2_with fail
    refine (between_any A Y n m ca cb xs ys w1 (hx.no hk) (hy.no hk) (by omega) (by omega) sx sy).mono ?_
    rintro e w2 ⟨g, rfl, hg, hmap, hk2⟩
    have hl : (btw xs ys).length ≤ 1000 := by
      have h1 := len_addAll (-1) ys (addAll 1 [] xs)
      have h2 := len_addAll 1 xs []
      simp [btw] at h1 h2 ⊢
      omega
    have hb := btw_bd sx sy
    go_wp2_with fail
    refine (cost_any g (btw xs ys) w2 hmap hl (fun k => by have := hb k; omega)).mono ?_
    rintro e w3 ⟨⟨c, rfl, hIs⟩, hk3⟩
    have HI := Lib.hid hIs
    clear hIs hb
    go_wp2_with fail
    refine bodyPost_ret (v := .tuple #[.int .i64 c, .int .i64 0]) (by simp [results, Try.results16, go_sem]) rfl ⟨_, rfl, fun h => absurd rfl h, fun _ => HI.out, hk.tr (hk2.tr hk3)⟩
  · have heb : (chk xs ys 24 == 0) = false := by rw [beq_eq_false_iff_ne]; exact he
    have HH := Lib.hid he
    clear he
    go_enter Try.func16, Try.ntmps16
    go_wp2_with fail
    refine (check_any A Y n m ca cb xs ys 24 _ hx hy (by omega)).mono ?_
    rintro e w1 ⟨rfl, hk⟩
    go_wp2_with fail
    refine bodyPost_ret (v := .tuple #[.int .i64 0, .int .i64 (chk xs ys 24)]) (by simp [results, Try.results16, go_sem]) rfl ⟨0, rfl, fun _ => rfl, fun h => absurd h HH.out, hk⟩
end Go.Proofs.Ytfflhlmnfhfcgaa

namespace Go.Proofs.Ytfflhlmnfhfcgaa
open Go.RowKit Go.Kq

set_option maxHeartbeats 1000000 in
theorem valid_any (v : Vc) (w : World) : Calls Try.prog 33 #[v.val] w fun e w' => e = .returned (.bool (!v.bad)) ∧ Kp No w w' := by
  obtain ⟨d, p, f, q⟩ := v
  simp only [Vc.val]
  go_enter Try.func33, Try.ntmps33
  go_wp2
  all_goals
    go_ret
    refine ⟨ret_bool ?_, Kp.alloc _ _ _⟩
    rw [Bool.eq_iff_iff]
    simp [Vc.bad]
    omega

set_option maxHeartbeats 1000000 in
theorem Check_any (A B : Option Addr) (n m ca cb : Nat) (xs ys : List Vc) (most : Int) (w : World) (hx : RdV w A n xs) (hy : RdV w B m ys) (hm : most ≤ 24) :
    Calls Try.prog 14 #[.slice A n ca, .slice B m cb, .int .i64 most] w fun e w' => e = .returned (.int .i64 (chk xs ys most)) ∧ Kp No w w' := by
  have hxl := hx.1
  have hyl := hy.1
  by_cases hl : 24 < xs.length ∨ most < ys.length
  · rw [chk_long hl]
    subst hxl hyl
    rcases Decidable.em (24 < xs.length) with h1 | h1
    · go_enter Try.func14, Try.ntmps14
      go_wp2
      all_goals
        go_ret
        exact ⟨rfl, Kp.refl _ _⟩
    · have h2 : most < ys.length := hl.resolve_left h1
      go_enter Try.func14, Try.ntmps14
      go_wp2
      all_goals
        go_ret
        exact ⟨rfl, Kp.refl _ _⟩
  · have h1 : ¬ 24 < xs.length := fun h => hl (.inl h)
    have h2 : ¬ most < ys.length := fun h => hl (.inr h)
    have Hl := Lib.hid hl
    subst hxl hyl
    clear hl
    go_enter Try.func14, Try.ntmps14
    go_wp2_with fail
    go_loopw [7] (fun i wr => ∃ k : Nat, k ≤ xs.length ∧ i = .int .i64 k ∧ (xs.take k).any Vc.bad = false ∧ Kp No w wr) (fun i _ => xs.length - (intOf i).toNat)
    case atStart => exact ⟨0, by omega, rfl, by simp, Kp.refl _ _⟩
    case round =>
      obtain ⟨k, hk, rfl, hno, hkp⟩ := hrel
      by_cases hlt : k < xs.length
      · obtain ⟨v, hv⟩ : ∃ v, xs[k]? = some v := ⟨_, List.getElem?_eq_getElem hlt⟩
        obtain ⟨b, o, rfl, hb, c0, c1, c2, c3⟩ := (hx.no hkp).2 k v hv
        have Ht := Lib.hid (any_take_succ Vc.bad xs k v hv)
        have Hno := Lib.hid hno
        have Hv := Lib.hid hv
        clear hno hv
        cases hbad : v.bad
        · go_wp2_with (go_at_call 33; refine (valid_any v _).mono ?_; rintro e w' ⟨rfl, hkp'⟩; rw [hbad])
          go_roundw
          case rel => exact ⟨k + 1, by omega, by go_num, by rw [Ht.out, Hno.out, hbad]; rfl, hkp.tr hkp'⟩
          case measure => simp [intOf]; omega
        · go_wp2_with (go_at_call 33; refine (valid_any v _).mono ?_; rintro e w' ⟨rfl, hkp'⟩; rw [hbad])
          go_ret
          have : xs.any Vc.bad = true := List.any_eq_true.2 ⟨v, List.mem_of_getElem? Hv.out, hbad⟩
          exact ⟨ret_i64 (by rw [chk_bad Hl.out (by rw [this]; rfl)]), hkp.tr hkp'⟩
      · have hxa : xs.any Vc.bad = false := by
          rw [List.take_of_length_le (by omega)] at hno
          exact hno
        have HX := Lib.hid hxa
        clear hxa hno
        go_wp2_with fail
        go_loopw [8] (fun i wr => ∃ k : Nat, k ≤ ys.length ∧ i = .int .i64 k ∧ (ys.take k).any Vc.bad = false ∧ Kp No w wr) (fun i _ => ys.length - (intOf i).toNat)
        case atStart => exact ⟨0, by omega, rfl, by simp, hkp⟩
        case round =>
          obtain ⟨k, hk, rfl, hno, hkp⟩ := hrel
          by_cases hlt : k < ys.length
          · obtain ⟨v, hv⟩ : ∃ v, ys[k]? = some v := ⟨_, List.getElem?_eq_getElem hlt⟩
            obtain ⟨b, o, rfl, hb, c0, c1, c2, c3⟩ := (hy.no hkp).2 k v hv
            have Ht := Lib.hid (any_take_succ Vc.bad ys k v hv)
            have Hno := Lib.hid hno
            have Hv := Lib.hid hv
            clear hno hv
            cases hbad : v.bad
            · go_wp2_with (go_at_call 33; refine (valid_any v _).mono ?_; rintro e w' ⟨rfl, hkp'⟩; rw [hbad])
              go_roundw
              case rel => exact ⟨k + 1, by omega, by go_num, by rw [Ht.out, Hno.out, hbad]; rfl, hkp.tr hkp'⟩
              case measure => simp [intOf]; omega
            · go_wp2_with (go_at_call 33; refine (valid_any v _).mono ?_; rintro e w' ⟨rfl, hkp'⟩; rw [hbad])
              go_ret
              have : ys.any Vc.bad = true := List.any_eq_true.2 ⟨v, List.mem_of_getElem? Hv.out, hbad⟩
              exact ⟨ret_i64 (by rw [chk_bad Hl.out (by rw [this]; simp)]), hkp.tr hkp'⟩
          · have hya : ys.any Vc.bad = false := by
              rw [List.take_of_length_le (by omega)] at hno
              exact hno
            have HY := Lib.hid hya
            clear hya hno
            go_wp2
            go_ret
            exact ⟨ret_i64 (by rw [chk_ok Hl.out (by rw [HX.out, HY.out]; rfl)]), hkp⟩

/-- A slice of ints. -/
def RdI (w : World) (A : Option Addr) (n : Nat) (xs : List Int) : Prop :=
  xs.length = n ∧ ∀ i x, xs[i]? = some x → ∃ b o, A = some ⟨b, o, none⟩ ∧ w.cell? ⟨b, o + i, none⟩ = some (.int .i64 x)
theorem RdI.no {w w' : World} {A : Option Addr} {n : Nat} {xs : List Int} (h : RdI w A n xs) (hk : Kp No w w') : RdI w' A n xs := ⟨h.1, fun i x hx => by
  obtain ⟨b, o, h1, h2⟩ := h.2 i x hx
  exact ⟨b, o, h1, hk.cell h2 fun h => h⟩⟩
set_option maxHeartbeats 1000000 in
theorem same_any (A B : Option Addr) (n m ca cb : Nat) (xs ys : List Int) (w : World) (hx : RdI w A n xs) (hy : RdI w B m ys) (hn : n ≤ 100000000) :
    Calls Try.prog 12 #[.slice A n ca, .slice B m cb] w fun e w' => e = .returned (.bool (decide (xs = ys))) ∧ Kp No w w' := by
  have hxl := hx.1
  have hyl := hy.1
  by_cases hl : n = m
  · subst hl
    go_enter Try.func12, Try.ntmps12
    go_wp2_with fail
    go_loopw [5] (fun i wr => ∃ k : Nat, k ≤ n ∧ i = .int .i64 k ∧ xs.take k = ys.take k ∧ Kp No w wr) (fun i _ => n - (intOf i).toNat)
    case atStart => exact ⟨0, by omega, rfl, by simp, Kp.refl _ _⟩
    case round =>
      obtain ⟨k, hk, rfl, hno, hkp⟩ := hrel
      by_cases hlt : k < n
      · obtain ⟨x, hxk⟩ : ∃ x, xs[k]? = some x := ⟨_, List.getElem?_eq_getElem (by omega)⟩
        obtain ⟨y, hyk⟩ : ∃ y, ys[k]? = some y := ⟨_, List.getElem?_eq_getElem (by omega)⟩
        obtain ⟨b, o, rfl, c0⟩ := (hx.no hkp).2 k x hxk
        obtain ⟨b', o', rfl, c1⟩ := (hy.no hkp).2 k y hyk
        have Ht := Lib.hid hno
        have X := Lib.hid hxk
        have Y := Lib.hid hyk
        clear hno hxk hyk
        by_cases hxy : x = y
        · subst hxy
          go_wp2_with fail
          go_quiet (fail)
          go_wp2_with fail
          go_roundw
          case rel => exact ⟨k + 1, by omega, by go_num, by rw [List.take_add_one, List.take_add_one, Ht.out, X.out, Y.out], hkp.tr (Kp.drewN _ _ _)⟩
          case measure => simp [intOf]; omega
        · have hb : (x == y) = false := by rw [beq_eq_false_iff_ne]; exact hxy
          have hne : xs ≠ ys := fun h => hxy (by have := X.out; rw [h, Y.out] at this; cases this; rfl)
          have HN := Lib.hid hne
          clear hxy hne
          go_wp2_with fail
          go_quiet (fail)
          go_wp2_with fail
          go_ret
          exact ⟨ret_bool (by simp [HN.out]), hkp.tr (Kp.drewN _ _ _)⟩
      · have he : xs = ys := by
          rw [List.take_of_length_le (by omega), List.take_of_length_le (by omega)] at hno
          exact hno
        have HE := Lib.hid he
        clear he hno
        go_wp2
        go_ret
        exact ⟨ret_bool (by simp [HE.out]), hkp⟩
  · have hne : xs ≠ ys := fun h => hl (by rw [← hxl, ← hyl, h])
    have hb : ((n : Int) == (m : Int)) = false := by rw [beq_eq_false_iff_ne]; omega
    have HN := Lib.hid hne
    clear hne
    go_enter Try.func12, Try.ntmps12
    go_wp2
    go_ret
    exact ⟨ret_bool (by simp [HN.out]), Kp.refl _ _⟩
end Go.Proofs.Ytfflhlmnfhfcgaa
