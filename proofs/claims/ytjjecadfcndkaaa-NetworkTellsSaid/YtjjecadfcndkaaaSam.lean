/- Chapter 14: walks of same, sameInts and the example. -/
import Derived.Test.YtjjecadfcndkaaaSpr
import Derived.Test.YtjjecadfcndkaaaExm
namespace Go.Proofs.Ytjjecadfcndkaaa
open Go.RowKit Go.Kq Go.Flow

set_option maxHeartbeats 1000000 in
theorem sameI_any (A B : Option Addr) (n m ca cb : Nat) (xs ys : List Int) (w : World) (hx : RdI .i64 w A n xs) (hy : RdI .i64 w B m ys) (hn : n ≤ 100000000) :
    Calls Try.prog 17 #[.slice A n ca, .slice B m cb] w fun e w' => e = .returned (.bool (decide (xs = ys))) ∧ Kp No w w' := by
  have hxl := hx.1
  have hyl := hy.1
  by_cases hl : n = m
  · subst hl
    go_enter Try.func17, Try.ntmps17
    go_wp2_with fail
    go_loopw [5] (fun i wr => ∃ k : Nat, k ≤ n ∧ i = .int .i64 k ∧ xs.take k = ys.take k ∧ Kp No w wr) (fun i _ => n - (intOf i).toNat)
    case atStart => exact ⟨0, by omega, rfl, by simp, Kp.refl _ _⟩
    case round =>
      obtain ⟨k, hk, rfl, hno, hkp⟩ := hrel
      by_cases hlt : k < n
      · obtain ⟨x, hxk⟩ : ∃ x, xs[k]? = some x := ⟨_, List.getElem?_eq_getElem (by omega)⟩
        obtain ⟨y, hyk⟩ : ∃ y, ys[k]? = some y := ⟨_, List.getElem?_eq_getElem (by omega)⟩
        obtain ⟨b, o, rfl, _, c0⟩ := (hx.no hkp).2 k x hxk
        obtain ⟨b', o', rfl, _, c1⟩ := (hy.no hkp).2 k y hyk
        have Ht := Lib.hid hno
        have X := Lib.hid hxk
        have Y := Lib.hid hyk
        clear hno hxk hyk
        by_cases hxy : x = y
        · subst hxy
          go_wp2_with fail
          go_quiet (fail)
          go_wp2_with fail
          go_roundw
          case rel => exact ⟨k + 1, by omega, by go_num, by rw [List.take_add_one, List.take_add_one, Ht.out, X.out, Y.out], hkp.tr (Kp.drewN _ _ _)⟩
          case measure => simp [intOf]; omega
        · have hb : (x == y) = false := by rw [beq_eq_false_iff_ne]; exact hxy
          have hne : xs ≠ ys := fun h => hxy (by have := X.out; rw [h, Y.out] at this; cases this; rfl)
          have HN := Lib.hid hne
          clear hxy hne
          go_wp2_with fail
          go_quiet (fail)
          go_wp2_with fail
          go_ret
          exact ⟨ret_bool (by simp [HN.out]), hkp.tr (Kp.drewN _ _ _)⟩
      · have he : xs = ys := by
          rw [List.take_of_length_le (by omega), List.take_of_length_le (by omega)] at hno
          exact hno
        have HE := Lib.hid he
        clear he hno
        go_wp2
        go_ret
        exact ⟨ret_bool (by simp [HE.out]), hkp⟩
  · have hne : xs ≠ ys := fun h => hl (by rw [← hxl, ← hyl, h])
    have hb : ((n : Int) == (m : Int)) = false := by rw [beq_eq_false_iff_ne]; omega
    have HN := Lib.hid hne
    clear hne
    go_enter Try.func17, Try.ntmps17
    go_wp2
    go_ret
    exact ⟨ret_bool (by simp [HN.out]), Kp.refl _ _⟩
set_option maxHeartbeats 1000000 in
theorem sameL_any (A B : Option Addr) (n m ca cb : Nat) (xs ys : List Int) (w : World) (hx : RdI .i64 w A n xs) (hy : RdI .i64 w B m ys) (hn : n ≤ 100000000) :
    Calls Try.prog 20 #[.slice A n ca, .slice B m cb] w fun e w' => e = .returned (.bool (decide (xs = ys))) ∧ Kp No w w' := by
  have hxl := hx.1
  have hyl := hy.1
  by_cases hl : n = m
  · subst hl
    go_enter Try.func20, Try.ntmps20
    go_wp2_with fail
    go_loopw [5] (fun i wr => ∃ k : Nat, k ≤ n ∧ i = .int .i64 k ∧ xs.take k = ys.take k ∧ Kp No w wr) (fun i _ => n - (intOf i).toNat)
    case atStart => exact ⟨0, by omega, rfl, by simp, Kp.refl _ _⟩
    case round =>
      obtain ⟨k, hk, rfl, hno, hkp⟩ := hrel
      by_cases hlt : k < n
      · obtain ⟨x, hxk⟩ : ∃ x, xs[k]? = some x := ⟨_, List.getElem?_eq_getElem (by omega)⟩
        obtain ⟨y, hyk⟩ : ∃ y, ys[k]? = some y := ⟨_, List.getElem?_eq_getElem (by omega)⟩
        obtain ⟨b, o, rfl, _, c0⟩ := (hx.no hkp).2 k x hxk
        obtain ⟨b', o', rfl, _, c1⟩ := (hy.no hkp).2 k y hyk
        have Ht := Lib.hid hno
        have X := Lib.hid hxk
        have Y := Lib.hid hyk
        clear hno hxk hyk
        by_cases hxy : x = y
        · subst hxy
          go_wp2_with fail
          go_quiet (fail)
          go_wp2_with fail
          go_roundw
          case rel => exact ⟨k + 1, by omega, by go_num, by rw [List.take_add_one, List.take_add_one, Ht.out, X.out, Y.out], hkp.tr (Kp.drewN _ _ _)⟩
          case measure => simp [intOf]; omega
        · have hb : (x == y) = false := by rw [beq_eq_false_iff_ne]; exact hxy
          have hne : xs ≠ ys := fun h => hxy (by have := X.out; rw [h, Y.out] at this; cases this; rfl)
          have HN := Lib.hid hne
          clear hxy hne
          go_wp2_with fail
          go_quiet (fail)
          go_wp2_with fail
          go_ret
          exact ⟨ret_bool (by simp [HN.out]), hkp.tr (Kp.drewN _ _ _)⟩
      · have he : xs = ys := by
          rw [List.take_of_length_le (by omega), List.take_of_length_le (by omega)] at hno
          exact hno
        have HE := Lib.hid he
        clear he hno
        go_wp2
        go_ret
        exact ⟨ret_bool (by simp [HE.out]), hkp⟩
  · have hne : xs ≠ ys := fun h => hl (by rw [← hxl, ← hyl, h])
    have hb : ((n : Int) == (m : Int)) = false := by rw [beq_eq_false_iff_ne]; omega
    have HN := Lib.hid hne
    clear hne
    go_enter Try.func20, Try.ntmps20
    go_wp2
    go_ret
    exact ⟨ret_bool (by simp [HN.out]), Kp.refl _ _⟩
theorem trunk_any (fr to lo hi : Int) (w : World) : Calls Try.prog 46 #[.int .i64 fr, .int .i64 to, .int .i64 lo, .int .i64 hi] w fun e w' => e = .returned (.agg #[.int .i64 fr, .int .i64 to, .int .i64 lo, .int .i64 hi]) ∧ Kp No w w' := by
  go_enter Try.func46, Try.ntmps46
  go_wp2
  exact bodyPost_ret (v := .agg #[.int .i64 fr, .int .i64 to, .int .i64 lo, .int .i64 hi]) (by simp [results, Try.results46, go_sem]) rfl ⟨rfl, Kp.alloc _ _ _⟩
set_option maxHeartbeats 2000000 in
set_option maxRecDepth 100000 in
theorem example_any (w : World) : Calls Try.prog 28 #[] w fun e w' => ∃ A B, e = .returned (netV exN A B 5 2) ∧ RdNet w' A B exN ∧ Kp No w w' := by
  go_enter Try.func28, Try.ntmps28
  go_wp2_with fail
  have K0 := Lib.hid (Kp.alloc No w (.cells #[.int .i64 0, .slice none 0 0, .slice none 0 0] 25))
  refine (trunk_any 0 1 5 6 _).mono ?_
  rintro e w1 ⟨rfl, hk1⟩
  have K1 := Lib.hid (K0.out.tr hk1)
  have B1 := Lib.hid (hk1.heap (heap_alloc_new w (.cells #[.int .i64 0, .slice none 0 0, .slice none 0 0] 25)) (fun h => h))
  clear hk1
  go_wp2_with fail
  refine (trunk_any 0 2 4 4 _).mono ?_
  rintro e w2 ⟨rfl, hk2⟩
  have K2 := Lib.hid (K1.out.tr hk2)
  have B2 := Lib.hid (hk2.heap B1.out (fun h => h))
  clear hk2
  go_wp2_with fail
  refine (trunk_any 1 3 3 9 _).mono ?_
  rintro e w3 ⟨rfl, hk3⟩
  have K3 := Lib.hid (K2.out.tr hk3)
  have B3 := Lib.hid (hk3.heap B2.out (fun h => h))
  clear hk3
  go_wp2_with fail
  refine (trunk_any 2 3 2 2 _).mono ?_
  rintro e w4 ⟨rfl, hk4⟩
  have K4 := Lib.hid (K3.out.tr hk4)
  have B4 := Lib.hid (hk4.heap B3.out (fun h => h))
  clear hk4
  go_wp2_with fail
  refine (trunk_any 1 2 1 1 _).mono ?_
  rintro e w5 ⟨rfl, hk5⟩
  have K5 := Lib.hid (K4.out.tr hk5)
  have b5 := hk5.heap B4.out (fun h => h)
  have z0 : w5.cell? ⟨w.heap.size, 0, none⟩ = some (.int .i64 0) := by rw [cell_of_row w5 _ 0 _ _ _ b5]; rfl
  have z1 : w5.cell? ⟨w.heap.size, 1, none⟩ = some (.slice none 0 0) := by rw [cell_of_row w5 _ 1 _ _ _ b5]; rfl
  have z2 : w5.cell? ⟨w.heap.size, 2, none⟩ = some (.slice none 0 0) := by rw [cell_of_row w5 _ 2 _ _ _ b5]; rfl
  have f0 : w5.frozen? ⟨w.heap.size, 0, none⟩ = false := by simp [World.frozen?, b5]
  have f1 : w5.frozen? ⟨w.heap.size, 1, none⟩ = false := by simp [World.frozen?, b5]
  have f2 : w5.frozen? ⟨w.heap.size, 2, none⟩ = false := by simp [World.frozen?, b5]
  have hlt := (Array.getElem?_eq_some_iff.1 b5).1
  clear hk5 b5
  go_wp2_with fail
  refine bodyPost_ret (v := .agg #[.int .i64 4, .slice (some ⟨w5.heap.size, 0, none⟩) 5 5, .slice (some ⟨w5.heap.size + 1, 0, none⟩) 2 2]) (by simp [results, Try.results28, go_sem, z0, z1, z2, hlt]) rfl ⟨_, _, rfl, ?_, ?_⟩
  · have hs : (((w5.setCell ⟨w.heap.size, 0, none⟩ (.int .i64 4)).setCell ⟨w.heap.size, 1, none⟩ (.slice (some ⟨w5.heap.size, 0, none⟩) 5 5)).setCell ⟨w.heap.size, 2, none⟩ (.slice (some ⟨w5.heap.size + 1, 0, none⟩) 2 2)).heap.size = w5.heap.size := by simp
    generalize ((w5.setCell ⟨w.heap.size, 0, none⟩ (.int .i64 4)).setCell ⟨w.heap.size, 1, none⟩ (.slice (some ⟨w5.heap.size, 0, none⟩) 5 5)).setCell ⟨w.heap.size, 2, none⟩ (.slice (some ⟨w5.heap.size + 1, 0, none⟩) 2 2) = W3 at hs ⊢
    have e1 : ∀ o1 o2 : Obj, ((W3.alloc o1).alloc o2).heap[w5.heap.size]? = some o1 := fun o1 o2 => by
      rw [← hs]
      exact (Kp.alloc No _ _).heap (heap_alloc_new W3 o1) (fun h => h)
    have e2 : ∀ o1 o2 : Obj, ((W3.alloc o1).alloc o2).heap[w5.heap.size + 1]? = some o2 := fun o1 o2 => by
      have := heap_alloc_new (W3.alloc o1) o2
      rw [World.size_alloc, hs] at this
      exact this
    refine ⟨⟨rfl, fun i v hv => ⟨_, 0, rfl, (Array.getElem?_eq_some_iff.1 (e1 _ _)).1, fun j u hj => ?_⟩⟩, ⟨rfl, fun i v hv => ⟨_, 0, rfl, (Array.getElem?_eq_some_iff.1 (e2 _ _)).1, ?_⟩⟩⟩
    · rw [cell_of_row _ _ _ _ _ _ (e1 _ _)]
      have hi : i < 5 := (List.getElem?_eq_some_iff.1 hv).1
      have hj4 : j < 4 := (List.getElem?_eq_some_iff.1 hj).1
      match i, hi, hv with
      | 0, _, hv | 1, _, hv | 2, _, hv | 3, _, hv | 4, _, hv =>
        simp [exN] at hv
        subst hv
        match j, hj4, hj with
        | 0, _, hj | 1, _, hj | 2, _, hj | 3, _, hj =>
          simp [c4] at hj
          subst hj
          rfl
    · rw [cell_of_row _ _ _ _ _ _ (e2 _ _)]
      have hi : i < 2 := (List.getElem?_eq_some_iff.1 hv).1
      match i, hi, hv with
      | 0, _, hv | 1, _, hv =>
        simp [exN] at hv
        subst hv
        rfl
  · exact (K5.out.trans (((kp_setOne _ w.heap.size _ _).tr (kp_setOne _ w.heap.size _ _)).tr (kp_setOne _ w.heap.size _ _)) fun k hk e => by
      have e2 : k = w.heap.size := e
      omega).tr ((Kp.alloc _ _ _).tr (Kp.alloc _ _ _))
end Go.Proofs.Ytjjecadfcndkaaa
