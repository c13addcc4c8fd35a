/- Chapter 33: the reference's sorted: the walk. -/
import Derived.Test.YtfflhlmnfhfcgaaXLibSwM
namespace Go.Proofs.Ytfflhlmnfhfcgaa
open Go.RowKit Go.Kq

theorem ins_perm {S T A B : List Nat} {x : Nat} (hS : S.Perm T) (h : S = A ++ B) : (A ++ x :: B).Perm (T ++ [x]) := by
  subst h
  exact List.perm_middle.trans ((List.perm_append_singleton x (A ++ B)).symm.trans (hS.append_right [x]))
theorem ins_sort {S A B : List Nat} {x : Nat} (hS : S.Pairwise (· ≤ ·)) (h : S = A ++ B) (hB : ∀ b ∈ B, x < b) (hA : ∀ a ∈ A, a ≤ x) : (A ++ x :: B).Pairwise (· ≤ ·) := by
  subst h
  rw [List.pairwise_append] at hS ⊢
  refine ⟨hS.1, List.pairwise_cons.2 ⟨fun b hb => Nat.le_of_lt (hB b hb), hS.2.1⟩, fun a ha b hb => ?_⟩
  rcases List.mem_cons.1 hb with rfl | hb
  · exact hA a ha
  · exact hS.2.2 a ha b hb
theorem last_le {S A B : List Nat} {a x : Nat} (hS : S.Pairwise (· ≤ ·)) (h : S = (A ++ [a]) ++ B) (hax : a ≤ x) : ∀ b ∈ A ++ [a], b ≤ x := by
  subst h
  rw [List.pairwise_append, List.pairwise_append] at hS
  intro b hb
  rcases List.mem_append.1 hb with hb | hb
  · exact Nat.le_trans (hS.1.2.2 b hb a (by simp)) hax
  · simp at hb
    omega
set_option maxHeartbeats 4000000 in
set_option maxRecDepth 100000 in
theorem sorted_any2 (A : Option Addr) (n ca : Nat) (L : List Nat) (w : World) (hx : RdI w A n (L.map Int.ofNat)) (hn : n ≤ 100) :
    Calls Try.prog 48 #[.slice A n ca] w fun e w' => ∃ v, e = .returned v ∧ w'.ownsRow w.heap.size 3 1 v (srt L).length ((srt L).map natV) ∧ Kp No w w' := by
  obtain ⟨i0, hi0, hz0, hz1, hz2⟩ := info_parts info3
  have hxl : L.length = n := by have := hx.1; simpa using this
  have HSL := Lib.hid (fun (S : List Nat) (hp : S.Perm L) (hs : S.Pairwise (· ≤ ·)) => (srt_uniq hp hs : S = srt L))
  have HX := Lib.hid hx
  clear hx
  go_enter Try.func48, Try.ntmps48
  go_wp2_with fail
  go_loopw [3, 4] (fun vo vi wr => ∃ (i : Nat) (S : List Nat), i ≤ n ∧ vi = .int .i64 i ∧ S.Perm (L.take i) ∧ S.Pairwise (· ≤ ·) ∧ wr.ownsRow w.heap.size 3 1 vo i (S.map natV) ∧ Kp No w wr) (fun _ vi _ => n - (intOf vi).toNat)
  case atStart => exact ⟨0, [], by omega, rfl, by simp, List.Pairwise.nil, ⟨rfl, .inl ⟨rfl, rfl⟩⟩, Kp.refl _ _⟩
  case round =>
    obtain ⟨i, S, hi, rfl, hp, hs, hol, hkp⟩ := hrel
    have HP := Lib.hid hp
    have HS := Lib.hid hs
    have HOL := Lib.hid hol
    clear hp hs hol
    obtain ⟨al, cl, rfl, _, _, _⟩ := own_form HOL.out
    by_cases hlt : i < n
    · obtain ⟨x, hxi⟩ : ∃ x, L[i]? = some x := ⟨_, List.getElem?_eq_getElem (by omega)⟩
      obtain ⟨b, o, rfl, c1⟩ := (HX.out.no hkp).2 i (x : Int) (by rw [List.getElem?_map, hxi]; rfl)
      have HTK := Lib.hid (show L.take (i + 1) = L.take i ++ [x] by rw [List.take_add_one, hxi]; rfl)
      clear hxi
      go_wp2_with (at_builtin; refine stop_in ?_)
      refine stop_out ?_
      refine wpList_append_own_at _ rfl _ _ 23 rfl w.heap.size 3 i0 (.int .i64 0) 1 8 Try.underlying23 hi0 hz0 hz1 hz2 rfl (by decide) (.slice al i cl) i (S.map natV) rfl (HOL.out.alloc (.cells #[.int .i64 x] 3)) ⟨wr.heap.size, 0, none⟩ 1 1 [.int .i64 x] rfl rfl (cell_one_new wr _ _) (ints_oneCell .i64 [(x : Int)]) (by unfold maxLen; omega) (by omega) (by have := hkp.size; simp; omega) ?_
      intro v' w7 hown' hgrow hnil hat
      have hk7 : Kp No w w7 := kp_app hkp HOL.out (Nat.le_refl _) hgrow
      obtain ⟨g, c7, rfl, hc7, _, hg7⟩ := own_form hown'
      obtain ⟨g, rfl⟩ := hg7 (by omega)
      have hgw := (Go.Kq.own_ge hown' (g := g) rfl).1
      have hSl : S.length = i := by have := HOL.out.1; simpa using this
      have HOL7 := Lib.hid (show w7.ownsRow w.heap.size 3 1 (.slice (some ⟨g, 0, none⟩) (i + 1) c7) (i + 1) ((S ++ x :: []).map natV) by rw [List.map_append]; exact hown')
      have HSl := Lib.hid hSl
      clear hown' hgrow hnil hat hg7 c1 hSl
      go_wp2_with fail
      go_loopw [5] (fun vk wr => ∃ (A B : List Nat), vk = .int .i64 A.length ∧ S = A ++ B ∧ (∀ b ∈ B, x < b) ∧ wr.ownsRow w.heap.size 3 1 (.slice (some ⟨g, 0, none⟩) (i + 1) c7) (i + 1) ((A ++ x :: B).map natV) ∧ Kp No w wr) (fun vk _ => (intOf vk).toNat)
      case atStart => exact ⟨S, [], by rw [HSl.out], by simp, by simp, HOL7.out, hk7⟩
      case round =>
        obtain ⟨A, B, rfl, hAB, hB, hrow, hkq⟩ := hrel
        have HAB := Lib.hid hAB
        have HB := Lib.hid hB
        have HR := Lib.hid hrow
        clear hAB hB hrow
        have hAl : A.length ≤ i := by have h1 := HSl.out; have h2 := congrArg List.length HAB.out; simp at h2; omega
        obtain ⟨k, hk⟩ : ∃ k, k = A.length := ⟨_, rfl⟩
        rw [← hk]
        have hki : k ≤ i := by omega
        have HK := Lib.hid hk
        clear hk hAl
        rcases Nat.eq_zero_or_pos k with h0 | h0
        · subst h0
          have hA0 : A = [] := List.length_eq_zero_iff.1 HK.out.symm
          have hd0 : decide ((0 : Int) < ((0 : Nat) : Int)) = false := rfl
          have HE1 := Lib.hid (ins_perm HP.out HAB.out (x := x))
          have HE2 := Lib.hid (ins_sort HS.out HAB.out HB.out (by rw [hA0]; simp))
          go_wp2_with fail
          go_quiet (fail)
          go_wp2_with fail
          go_roundw
          case rel => exact ⟨i + 1, A ++ x :: B, by omega, by go_num, by rw [HTK.out]; exact HE1.out, HE2.out, (Kp.drewN No _ _).owns HR.out (fun _ _ h => h), hkq.tr (Kp.drewN _ _ _)⟩
          case measure => simp [intOf]; omega
        · obtain ⟨p, rfl⟩ : ∃ p, k = p + 1 := ⟨k - 1, by omega⟩
          obtain ⟨A', aa, hAA⟩ : ∃ A' aa, A = A' ++ [aa] := by
            rcases List.eq_nil_or_concat A with h | ⟨A', a, h⟩
            · have := HK.out
              rw [h] at this
              simp at this
            · exact ⟨A', a, by rw [h, List.concat_eq_append]⟩
          have HAA := Lib.hid hAA
          have HAL := Lib.hid (show A'.length = p by have h := HK.out; rw [hAA, List.length_append] at h; simp at h; omega)
          clear hAA
          rw [show ((p + 1 : Nat) : Int) = (p : Int) + 1 from by omega]
          have hd0 : decide ((0 : Int) < (p : Int) + 1) = true := decide_eq_true (by omega)
          have HAJ := Lib.hid (show ((A ++ x :: B).map natV)[p]? = some (.int .i64 (aa : Int)) by
            rw [List.getElem?_map, HAA.out, List.append_assoc, List.getElem?_append_right (by rw [HAL.out]; omega), HAL.out]
            simp
            rfl)
          have HXJ := Lib.hid (show ((A ++ x :: B).map natV)[p + 1]? = some (.int .i64 (x : Int)) by
            rw [List.getElem?_map, HAA.out, List.getElem?_append_right (by rw [List.length_append, HAL.out]; simp), List.length_append, HAL.out]
            simp
            rfl)
          have HSW := Lib.hid (show (((A ++ x :: B).map natV).set p (.int .i64 (x : Int))).set (p + 1) (.int .i64 (aa : Int)) = (A' ++ x :: aa :: B).map natV by
            have h := HAL.out
            subst h
            rw [HAA.out]
            simp [natV])
          have cA : wr.cell? ⟨g, p, none⟩ = some (.int .i64 (aa : Int)) := Go.Kq.own_cell HR.out HAJ.out
          have cX : wr.cell? ⟨g, p + 1, none⟩ = some (.int .i64 (x : Int)) := Go.Kq.own_cell HR.out HXJ.out
          have hcl : ∀ (w' : World) (us : List Value), w'.ownsRow w.heap.size 3 1 (.slice (some ⟨g, 0, none⟩) (i + 1) c7) (i + 1) us → ∀ j, j < i + 1 → ∃ old, w'.cell? ⟨g, j, none⟩ = some old := fun w' us h j hj => ⟨_, Go.Kq.own_cell h (List.getElem?_eq_getElem (by have := h.1; omega))⟩
          by_cases hax : x < aa
          · have hda : decide ((x : Int) < (aa : Int)) = true := decide_eq_true (by omega)
            go_wp2_with fail
            go_quiet (fail)
            go_wp2_with fail
            have HR' := Lib.hid ((Kp.drewN No wr nq).owns HR.out (fun _ _ h => h))
            have hkq' := hkq.tr (Kp.drewN No wr nq)
            generalize wr.drewN nq = wq at *
            have hwp : IntKind.i64.wrap (p : Int) = (p : Int) := IntWalk.i64_in _ (by omega)
            have hz0 : 0 ≤ (p : Int) + 1 := by omega
            have hz1 : p < i := by omega
            have hz2 : (p : Int) < (i : Int) + 1 := by omega
            have hz3 : p < i + 1 := by omega
            refine wp_region_each (fun ix u => match ix with
              | 0 => u = .slice (some ⟨g, 0, none⟩) (i + 1) c7 | 1 => u = .int .i64 ((p : Int) + 1) | 2 => u = .int .i64 (p : Int) | 3 => u = .slice (some ⟨g, 0, none⟩) (i + 1) c7 | 4 => u = .int .i64 ((p : Int) + 1) | 5 => u = .slice (some ⟨g, 0, none⟩) (i + 1) c7 | 6 => u = .int .i64 ((p : Int) + 1) | 7 => u = .pointer (some ⟨g, p + 1, none⟩) | 8 => u = .int .i64 (x : Int) | 9 => u = .slice (some ⟨g, 0, none⟩) (i + 1) c7 | 10 => u = .int .i64 ((p : Int) + 1) | 11 => u = .int .i64 (p : Int) | 12 => u = .pointer (some ⟨g, p, none⟩) | 13 => u = .int .i64 (aa : Int) | 14 => u = .pointer (some ⟨g, p, none⟩) | 16 => u = .pointer (some ⟨g, p + 1, none⟩) | _ => True)
              (Sw wq g w.heap.size 3 (i + 1) c7 ((A ++ x :: B).map natV) p (p + 1) (.int .i64 (aa : Int)) (.int .i64 (x : Int)) 8 13 15 17) (by kernel_rfl) (by kernel_rfl) (by kernel_rfl) ?_ ?_ ?_
            · exact Sw.start HR'.out
            · refine ⟨?_, ?_, ?_, ?_, ?_, ?_, ?_, ?_, ?_, ?_, ?_, ?_, ?_, ?_, ?_, ?_, ?_, ?_, trivial⟩
              · intro r a w' hf hg hW hr hd K hK
                refine wpOp_of rfl rfl ?_
                have e0 : a.tmps.getD 3 undef = .slice (some ⟨g, 0, none⟩) (i + 1) c7 := hf.evalFree (by kernel_rfl)
                go_simp
                exact hK _ _ rfl (hW.upd 0 _ (by decide) (by decide))
              · intro r a w' hf hg hW hr hd K hK
                refine wpOp_of rfl rfl ?_
                have e0 : a.tmps.getD 5 undef = .int .i64 ((p : Int) + 1) := hf.evalFree (by kernel_rfl)
                go_simp
                exact hK _ _ rfl (hW.upd 1 _ (by decide) (by decide))
              · intro r a w' hf hg hW hr hd K hK
                refine wpOp_of rfl rfl ?_
                refine hf.depE hg hd 1 39 (by kernel_rfl) fun u0 e0 g0 _ => ?_
                replace g0 : u0 = .int .i64 ((p : Int) + 1) := g0
                subst g0
                go_simp
                exact hK _ _ rfl (hW.upd 2 _ (by decide) (by decide))
              · intro r a w' hf hg hW hr hd K hK
                refine wpOp_of rfl rfl ?_
                have e0 : a.tmps.getD 3 undef = .slice (some ⟨g, 0, none⟩) (i + 1) c7 := hf.evalFree (by kernel_rfl)
                go_simp
                exact hK _ _ rfl (hW.upd 3 _ (by decide) (by decide))
              · intro r a w' hf hg hW hr hd K hK
                refine wpOp_of rfl rfl ?_
                have e0 : a.tmps.getD 5 undef = .int .i64 ((p : Int) + 1) := hf.evalFree (by kernel_rfl)
                go_simp
                exact hK _ _ rfl (hW.upd 4 _ (by decide) (by decide))
              · intro r a w' hf hg hW hr hd K hK
                refine wpOp_of rfl rfl ?_
                have e0 : a.tmps.getD 3 undef = .slice (some ⟨g, 0, none⟩) (i + 1) c7 := hf.evalFree (by kernel_rfl)
                go_simp
                exact hK _ _ rfl (hW.upd 5 _ (by decide) (by decide))
              · intro r a w' hf hg hW hr hd K hK
                refine wpOp_of rfl rfl ?_
                have e0 : a.tmps.getD 5 undef = .int .i64 ((p : Int) + 1) := hf.evalFree (by kernel_rfl)
                go_simp
                exact hK _ _ rfl (hW.upd 6 _ (by decide) (by decide))
              · intro r a w' hf hg hW hr hd K hK
                refine wpOp_of rfl rfl ?_
                refine hf.depE hg hd 5 43 (by kernel_rfl) fun u0 e0 g0 _ => ?_
                replace g0 : u0 = .slice (some ⟨g, 0, none⟩) (i + 1) c7 := g0
                subst g0
                refine hf.depE hg hd 6 44 (by kernel_rfl) fun u1 e1 g1 _ => ?_
                replace g1 : u1 = .int .i64 ((p : Int) + 1) := g1
                subst g1
                go_simp
                exact hK _ _ rfl (hW.upd 7 _ (by decide) (by decide))
              · intro r a w' hf hg hW hr hd K hK
                refine wpOp_of rfl rfl ?_
                refine hf.depE hg hd 7 45 (by kernel_rfl) fun u0 e0 g0 _ => ?_
                replace g0 : u0 = .pointer (some ⟨g, p + 1, none⟩) := g0
                subst g0
                have y0 := hW.loadj hr (by omega) HXJ.out
                go_simp
                exact hK _ _ rfl (hW.upd 8 _ (by decide) (by decide))
              · intro r a w' hf hg hW hr hd K hK
                refine wpOp_of rfl rfl ?_
                have e0 : a.tmps.getD 3 undef = .slice (some ⟨g, 0, none⟩) (i + 1) c7 := hf.evalFree (by kernel_rfl)
                go_simp
                exact hK _ _ rfl (hW.upd 9 _ (by decide) (by decide))
              · intro r a w' hf hg hW hr hd K hK
                refine wpOp_of rfl rfl ?_
                have e0 : a.tmps.getD 5 undef = .int .i64 ((p : Int) + 1) := hf.evalFree (by kernel_rfl)
                go_simp
                exact hK _ _ rfl (hW.upd 10 _ (by decide) (by decide))
              · intro r a w' hf hg hW hr hd K hK
                refine wpOp_of rfl rfl ?_
                refine hf.depE hg hd 10 48 (by kernel_rfl) fun u0 e0 g0 _ => ?_
                replace g0 : u0 = .int .i64 ((p : Int) + 1) := g0
                subst g0
                go_simp
                exact hK _ _ rfl (hW.upd 11 _ (by decide) (by decide))
              · intro r a w' hf hg hW hr hd K hK
                refine wpOp_of rfl rfl ?_
                refine hf.depE hg hd 9 47 (by kernel_rfl) fun u0 e0 g0 _ => ?_
                replace g0 : u0 = .slice (some ⟨g, 0, none⟩) (i + 1) c7 := g0
                subst g0
                refine hf.depE hg hd 11 49 (by kernel_rfl) fun u1 e1 g1 _ => ?_
                replace g1 : u1 = .int .i64 (p : Int) := g1
                subst g1
                go_simp
                exact hK _ _ rfl (hW.upd 12 _ (by decide) (by decide))
              · intro r a w' hf hg hW hr hd K hK
                refine wpOp_of rfl rfl ?_
                refine hf.depE hg hd 12 50 (by kernel_rfl) fun u0 e0 g0 _ => ?_
                replace g0 : u0 = .pointer (some ⟨g, p, none⟩) := g0
                subst g0
                have y0 := hW.loadi hr (by omega) HAJ.out
                go_simp
                exact hK _ _ rfl (hW.upd 13 _ (by decide) (by decide))
              · intro r a w' hf hg hW hr hd K hK
                refine wpOp_of rfl rfl ?_
                refine hf.depE hg hd 0 38 (by kernel_rfl) fun u0 e0 g0 _ => ?_
                replace g0 : u0 = .slice (some ⟨g, 0, none⟩) (i + 1) c7 := g0
                subst g0
                refine hf.depE hg hd 2 40 (by kernel_rfl) fun u1 e1 g1 _ => ?_
                replace g1 : u1 = .int .i64 (p : Int) := g1
                subst g1
                go_simp
                exact hK _ _ rfl (hW.upd 14 _ (by decide) (by decide))
              · intro r a w' hf hg hW hr hd K hK
                refine wpOp_of rfl rfl ?_
                refine hf.depE hg hd 14 52 (by kernel_rfl) fun u0 e0 g0 _ => ?_
                replace g0 : u0 = .pointer (some ⟨g, p, none⟩) := g0
                subst g0
                refine hf.depE hg hd 8 46 (by kernel_rfl) fun u1 e1 g1 _ => ?_
                replace g1 : u1 = .int .i64 (x : Int) := g1
                subst g1
                refine hf.depE hg hd 13 51 (by kernel_rfl) fun u2 e2 g2 h2 => ?_
                obtain ⟨old, y0⟩ := hcl _ _ hW.row p (by omega)
                have y1 := hW.free p
                go_simp
                exact hK undef _ trivial (hW.sta hr (by rw [h2]; simp) (by decide) (by omega) undef)
              · intro r a w' hf hg hW hr hd K hK
                refine wpOp_of rfl rfl ?_
                refine hf.depE hg hd 3 41 (by kernel_rfl) fun u0 e0 g0 _ => ?_
                replace g0 : u0 = .slice (some ⟨g, 0, none⟩) (i + 1) c7 := g0
                subst g0
                refine hf.depE hg hd 4 42 (by kernel_rfl) fun u1 e1 g1 _ => ?_
                replace g1 : u1 = .int .i64 ((p : Int) + 1) := g1
                subst g1
                go_simp
                exact hK _ _ rfl (hW.upd 16 _ (by decide) (by decide))
              · intro r a w' hf hg hW hr hd K hK
                refine wpOp_of rfl rfl ?_
                refine hf.depE hg hd 16 53 (by kernel_rfl) fun u0 e0 g0 _ => ?_
                replace g0 : u0 = .pointer (some ⟨g, p + 1, none⟩) := g0
                subst g0
                refine hf.depE hg hd 13 51 (by kernel_rfl) fun u1 e1 g1 _ => ?_
                replace g1 : u1 = .int .i64 (aa : Int) := g1
                subst g1
                refine hf.depE hg hd 8 46 (by kernel_rfl) fun u2 e2 g2 h2 => ?_
                obtain ⟨old, y0⟩ := hcl _ _ hW.row (p + 1) (by omega)
                have y1 := hW.free (p + 1)
                go_simp
                exact hK undef _ trivial (hW.stb hr (by rw [h2]; simp) (by decide) undef)
            · intro r' w9 hg hW hr'
              have ho9 := hW.fin (hr' 15 (by decide)) (hr' 17 (by decide))
              have hk9 : Kp No w w9 := hkq'.trans hW.kp fun k hk e => by have e : k = g := e; omega
              rw [HSW.out] at ho9
              have HO9 := Lib.hid ho9
              clear hg hW hr' ho9
              simp only [List.length_cons, List.length_nil, Nat.reduceAdd, List.range_succ, List.range_zero, List.nil_append, List.cons_append, List.map_cons, List.map_nil, putAll, Act.put, List.setIfInBounds_toArray, List.set_cons_succ, List.set_cons_zero]
              go_wp2
              go_roundw
              case rel => exact ⟨A', aa :: B, by rw [HAL.out], by rw [HAB.out, HAA.out]; simp, fun b hb => by rcases List.mem_cons.1 hb with rfl | hb; exact hax; exact HB.out b hb, HO9.out, hk9⟩
              case measure => simp [intOf]
          · have hda : decide ((x : Int) < (aa : Int)) = false := decide_eq_false (by omega)
            have HE1 := Lib.hid (ins_perm HP.out HAB.out (x := x))
            have HE2 := Lib.hid (ins_sort HS.out HAB.out HB.out (by have := last_le HS.out (HAA.out ▸ HAB.out) (by omega : aa ≤ x); rw [HAA.out]; exact this))
            go_wp2_with fail
            go_quiet (fail)
            go_wp2_with fail
            go_roundw
            case rel => exact ⟨i + 1, A ++ x :: B, by omega, by go_num, by rw [HTK.out]; exact HE1.out, HE2.out, (Kp.drewN No _ _).owns HR.out (fun _ _ h => h), hkq.tr (Kp.drewN _ _ _)⟩
            case measure => simp [intOf]; omega
    · obtain rfl : i = n := by omega
      have HF := Lib.hid (HSL.out S (by have := HP.out; rwa [List.take_of_length_le (by omega)] at this) HS.out)
      go_wp2_with fail
      go_ret
      refine ⟨_, rfl, ?_, hkp⟩
      rw [← HF.out, show S.length = i by have := HOL.out.1; simpa using this]
      exact HOL.out
end Go.Proofs.Ytfflhlmnfhfcgaa
