/- Chapter 33: the walk of the reference's best. -/
import Derived.Test.YtfflhlmnfhfcgaaXRfCost
namespace Go.Proofs.Ytfflhlmnfhfcgaa
open Go.RowKit Go.Kq

theorem own_apart {w : World} {base base' n n' : Nat} {e e' : TypeId} {size size' : Nat} {v v' : Value} {xs xs' : List Value} (h : w.ownsRow base e size v n xs) (h' : w.ownsRow base' e' size' v' n' xs') (hne : e ≠ e') {g : Nat} (hg : v.ownBlock = some g) : v'.ownBlock ≠ some g := by
  intro hg'
  rcases h.2 with ⟨rfl, _⟩ | ⟨g1, _, _, rfl, _, hh, _⟩
  · cases hg
  · rcases h'.2 with ⟨rfl, _⟩ | ⟨g2, _, _, rfl, _, hh', _⟩
    · cases hg'
    · cases hg
      cases hg'
      rw [hh] at hh'
      injection hh' with hh'
      injection hh' with _ ht
      exact hne ht
theorem bit_of (j k : Nat) : ((((j : Int) + 1) / 2 ^ k).tmod 2 == 1) = (j + 1).testBit k := by
  have h : (((j : Int) + 1) / 2 ^ k) = (((j + 1) / 2 ^ k : Nat) : Int) := by simp
  rw [h, Nat.testBit_eq_decide_div_mod_eq]
  have h2 : (((j + 1) / 2 ^ k : Nat) : Int).tmod 2 = (((j + 1) / 2 ^ k % 2 : Nat) : Int) := rfl
  rw [h2, Bool.eq_iff_iff]
  simp only [beq_iff_eq, decide_eq_true_eq]
  omega
theorem less_two (A B : Option Addr) (n m ca cb : Nat) (xs ys : List Nat) (w : World) (hnm : n = m) (hx : RdI w A n (xs.map Int.ofNat)) (hy : RdI w B m (ys.map Int.ofNat)) (hn : n ≤ 100000000) :
    Calls Try.prog 54 #[.slice A n ca, .slice B m cb] w fun e w' => e = .returned (.bool (lexlt xs ys)) ∧ Kp No w w' := by
  subst hnm
  exact less_any A B n ca cb xs ys w hx hy hn
set_option maxHeartbeats 4000000 in
set_option maxRecDepth 100000 in
theorem rbest_any (A Y : Option Addr) (n m ca cb : Nat) (xs ys : List Vc) (most : Int) (w : World) (hx : RdV w A n xs) (hy : RdV w Y m ys) (hn : n ≤ 24) (hm : m ≤ 14) (hmo : 0 ≤ most ∧ most ≤ 14) (sx : Sane xs) (sy : Sane ys) :
    Calls Try.prog 32 #[.slice A n ca, .slice Y m cb, .int .i64 most] w fun e w' => ∃ v out c, e = .returned (.tuple #[v, .int .i64 c]) ∧ refS (Cst xs ys) m most.toNat (2 ^ m - 1) = (out, c) ∧ w'.ownsRow w.heap.size 3 1 v out.length (out.map natV) ∧ Kp No w w' := by
  obtain ⟨i0, hi0, hz0, hz1, hz2⟩ := info_parts info3
  obtain ⟨i1, hi1, hy0, hy1, hy2⟩ := info_parts info38
  have hxl := hx.1
  have hyl := hy.1
  obtain ⟨N, hN⟩ : ∃ N : Int, N = ((2 ^ m : Nat) : Int) := ⟨_, rfl⟩
  have hNn : ((2 ^ m - 1 : Nat) : Int) = N - 1 := by
    have := Nat.one_le_two_pow (n := m)
    omega
  have hNb : 1 ≤ N ∧ N ≤ 16384 := by
    have h1 := Nat.one_le_two_pow (n := m)
    have h2 := Nat.pow_le_pow_right (n := 2) (by omega) hm
    omega
  have hpw : wrap64 ((2 : Int) ^ m) = N := by
    rw [IntWalk.wrap64_in]
    · rw [hN]
      simp
    · have : (2 : Int) ^ m = ((2 ^ m : Nat) : Int) := by simp
      omega
  have HN := Lib.hid hN
  have HNN := Lib.hid hNn
  have HPW := Lib.hid hpw
  clear hN hNn hpw
  go_enter Try.func32, Try.ntmps32
  go_wp2_with fail
  refine (rcost_any A none n 0 ca 0 xs [] w hx (rdv_nil _ _) hn (by omega) sx (fun v h => by simp at h)).mono ?_
  rw [show runC 0 0 0 (dif xs []) = Cst xs ys [] from ref_cost (L := [])]
  rintro e w1 ⟨rfl, hk1⟩
  have HK1 := Lib.hid hk1
  clear hk1
  go_wp2_with fail
  go_loopw [8, 9, 10] (fun vo vl vs wr => ∃ (j : Nat) (out : List Nat) (c : Int), (j : Int) ≤ N - 1 ∧ vs = .int .i64 ((j : Int) + 1) ∧ vl = .int .i64 c ∧ refS (Cst xs ys) m most.toNat j = (out, c) ∧ wr.ownsRow w.heap.size 3 1 vo out.length (out.map natV) ∧ Kp No w wr) (fun _ _ vs _ => (N - intOf vs).toNat)
  case atStart => exact ⟨0, [], _, by omega, rfl, rfl, rfl, ⟨rfl, .inl ⟨rfl, rfl⟩⟩, HK1.out⟩
  case round =>
    obtain ⟨j, out, c, hj, rfl, rfl, hst, hown, hkp⟩ := hrel
    have HST := Lib.hid hst
    have HOW := Lib.hid hown
    clear hst hown
    by_cases hlt : (j : Int) + 1 < N
    · have hpw := HPW.out
      go_wp2_with fail
      clear hpw
      obtain ⟨wo, rfl⟩ : ∃ wo : World, wo = wr := ⟨_, rfl⟩
      go_loopw [11, 12, 13] (fun vl vv vi wr => ∃ k : Nat, k ≤ m ∧ vi = .int .i64 k ∧ wr.ownsRow wo.heap.size 3 1 vl (bl (j + 1) k).length ((bl (j + 1) k).map natV) ∧ wr.ownsRow wo.heap.size 38 4 vv (bl (j + 1) k).length (flat (sel ys (bl (j + 1) k))) ∧ Kp No wo wr) (fun _ _ vi _ => m - (intOf vi).toNat)
      case atStart => exact ⟨0, by omega, rfl, ⟨rfl, .inl ⟨rfl, rfl⟩⟩, ⟨rfl, .inl ⟨rfl, rfl⟩⟩, Kp.refl _ _⟩
      case round =>
        obtain ⟨k, hk, rfl, hol, hov, hkq⟩ := hrel
        have HOL := Lib.hid hol
        have HOV := Lib.hid hov
        clear hol hov
        by_cases hltk : k < m
        · obtain ⟨v, hv⟩ : ∃ v, ys[k]? = some v := ⟨_, List.getElem?_eq_getElem (by omega)⟩
          obtain ⟨b, o, rfl, hb, c0, c1, c2, c3⟩ := (hy.no (hkp.tr hkq)).2 k v hv
          have HV := Lib.hid hv
          clear hv
          cases hbt : (j + 1).testBit k
          · have hbit := (bit_of j k).trans hbt
            have HBS := Lib.hid (show bl (j + 1) (k + 1) = bl (j + 1) k by rw [bl_succ, hbt]; rfl)
            clear hbt
            go_wp2_with fail
            go_roundw
            case rel => exact ⟨k + 1, by omega, by go_num, by rw [HBS.out]; exact HOL.out, by rw [HBS.out]; exact HOV.out, hkq⟩
            case measure => simp [intOf]; omega
          · have hbit := (bit_of j k).trans hbt
            have HBS := Lib.hid (show bl (j + 1) (k + 1) = bl (j + 1) k ++ [k] by rw [bl_succ, hbt]; rfl)
            have hbl : (bl (j + 1) k).length ≤ k := by
              have := List.length_filter_le (j + 1).testBit (List.range k)
              rw [List.length_range] at this
              exact this
            clear hbt
            generalize bl (j + 1) k = L at *
            obtain ⟨al, cl, rfl, _, _, _⟩ := own_form HOL.out
            obtain ⟨av, cv, rfl, _, _, _⟩ := own_form HOV.out
            go_wp2_with (at_builtin; refine stop_in ?_)
            refine stop_out ?_
            refine wpList_append_own_at _ rfl _ _ 23 rfl wo.heap.size 3 i0 (.int .i64 0) 1 8 Try.underlying23 hi0 hz0 hz1 hz2 rfl (by decide) (.slice al L.length cl) L.length (L.map natV) rfl (HOL.out.alloc (.cells #[.int .i64 k] 3)) ⟨wr.heap.size, 0, none⟩ 1 1 [.int .i64 k] rfl rfl (cell_one_new wr _ _) (ints_oneCell .i64 [(k : Int)]) (by unfold maxLen; omega) (by omega) (by have := hkq.size; simp; omega) ?_
            intro v' w5 hown' hgrow hnil hat
            have hk5 : Kp No wo w5 := hkq.trans ((Kp.alloc (fun g => wo.heap.size ≤ g) _ _).tr (Kp.grown hgrow fun g hg _ => (own_ge HOL.out hg).1)) (fun g hg h => absurd h (Nat.not_le.2 hg))
            have hov5 := (Kp.grown (S := fun g => (Value.slice al L.length cl).ownBlock = some g) hgrow fun g hg _ => hg).owns (HOV.out.alloc (.cells #[.int .i64 k] 3)) fun g hg hS => own_apart HOL.out HOV.out (by decide) hS hg
            obtain ⟨b2, o2, hbo, _, d0, d1, d2, d3⟩ := (hy.no (hkp.tr hk5)).2 k v HV.out
            cases hbo
            have HOL5 := Lib.hid hown'
            have HOV5 := Lib.hid hov5
            clear hown' hgrow hnil hat hov5 c0 c1 c2 c3
            go_wp2_with (at_builtin; refine stop_in ?_)
            refine stop_out ?_
            refine wpList_append_own_at _ rfl _ _ 22 rfl wo.heap.size 38 i1 (.agg #[.int .i64 0, .int .i64 0, .int .i64 0, .int .i64 0]) 4 32 Try.underlying22 hi1 hy0 hy1 hy2 rfl (by decide) (.slice av L.length cv) L.length (flat (sel ys L)) rfl (HOV5.out.alloc _) ⟨w5.heap.size, 0, none⟩ 1 1 v.cells4 rfl rfl (new4 _ v) (cells4_one v) (by unfold maxLen; omega) (by omega) (by have := hk5.size; simp; omega) ?_
            intro v2 w6 hown' hgrow hnil hat
            have hk6 : Kp No wo w6 := hk5.trans ((Kp.alloc (fun g => wo.heap.size ≤ g) _ _).tr (Kp.grown hgrow fun g hg _ => (own_ge HOV5.out hg).1)) (fun g hg h => absurd h (Nat.not_le.2 hg))
            have hol6 := (Kp.grown (S := fun g => (Value.slice av L.length cv).ownBlock = some g) hgrow fun g hg _ => hg).owns (HOL5.out.alloc _) fun g hg hS => own_apart HOV5.out HOL5.out (by decide) hS hg
            rw [← flat_snoc, ← sel_snoc ys L k v HV.out] at hown'
            have HOL6 := Lib.hid hol6
            have HOV6 := Lib.hid hown'
            clear hown' hgrow hnil hat hol6
            go_wp2_with fail
            go_roundw
            case rel => exact ⟨k + 1, by omega, by go_num, by rw [HBS.out, List.length_append, List.map_append]; exact HOL6.out, by rw [HBS.out, List.length_append]; exact HOV6.out, hk6⟩
            case measure => simp [intOf]; omega
        · obtain rfl : k = m := by omega
          have hbl : (bl (j + 1) k).length ≤ k := by
            have := List.length_filter_le (j + 1).testBit (List.range k)
            rw [List.length_range] at this
            exact this
          have hRS : refS (Cst xs ys) k most.toNat (j + 1) = if (bl (j + 1) k).length ≤ most.toNat then betterR (Cst xs ys) (out, c) (bl (j + 1) k) else (out, c) := by
            rw [refS, HST.out]
          have hasc := bl_asc (j + 1) k
          generalize bl (j + 1) k = L at *
          have HRS := Lib.hid hRS
          clear hRS
          obtain ⟨al, cl, rfl, _, hri⟩ := own_rdi HOL.out
          obtain ⟨av, cv, rfl, _, hrv⟩ := own_rdv HOV.out
          obtain ⟨ao, co, rfl, _, hro⟩ := own_rdi HOW.out
          have hkw := hkp.tr hkq
          have HOW2 := Lib.hid (hkq.owns HOW.out (fun _ _ h => h))
          have HOL2 := Lib.hid (own_mono HOL.out hkp.size)
          have HRI := Lib.hid hri
          have HRO := Lib.hid (hro.no hkq)
          clear hri hro
          by_cases hlm : (L.length : Int) ≤ most
          · have hlm2 : ¬ most < (L.length : Int) := by omega
            go_wp2_with fail
            refine (rcost_any A av n L.length ca cv xs (sel ys L) wr (hx.no hkw) hrv hn (by omega) sx (fun v hv => sy v (sel_mem hv))).mono ?_
            rw [ref_cost]
            rintro e w7 ⟨rfl, hk7⟩
            have hkw7 := hkw.tr hk7
            have HOL7 := Lib.hid (hk7.owns HOL2.out (fun _ _ h => h))
            have HOW7 := Lib.hid (hk7.owns HOW2.out (fun _ _ h => h))
            have HI7 := Lib.hid (HRI.out.no hk7)
            have HO7 := Lib.hid (HRO.out.no hk7)
            generalize hcc : Cst xs ys L = c' at *
            have HCC := Lib.hid hcc
            clear hcc hrv hk7 hkw hkq hkp hasc
            by_cases hA : c' < c
            · have hcnd := (show c' < (out, c).2 ∨ (c' = (out, c).2 ∧ (L.length < (out, c).1.length ∨ (L.length = (out, c).1.length ∧ lexlt L (out, c).1 = true))) from .inl hA)
              have HT := Lib.hid (show refS (Cst xs ys) k most.toNat (j + 1) = (L, c') by rw [HRS.out, if_pos (by omega)]; unfold betterR; rw [HCC.out, if_pos hcnd])
              clear hcnd
              go_wp2_with fail
              go_roundw
              case rel => exact ⟨j + 1, L, c', by omega, by go_num, rfl, HT.out, HOL7.out, hkw7⟩
              case measure => simp [intOf]; omega
            · by_cases hB : c' = c
              · subst hB
                clear hA
                by_cases hC : L.length < out.length
                · have hcnd := (show c' < (out, c').2 ∨ (c' = (out, c').2 ∧ (L.length < (out, c').1.length ∨ (L.length = (out, c').1.length ∧ lexlt L (out, c').1 = true))) from .inr ⟨rfl, .inl hC⟩)
                  have HT := Lib.hid (show refS (Cst xs ys) k most.toNat (j + 1) = (L, c') by rw [HRS.out, if_pos (by omega)]; unfold betterR; rw [HCC.out, if_pos hcnd])
                  clear hcnd
                  go_wp2_with fail
                  go_roundw
                  case rel => exact ⟨j + 1, L, c', by omega, by go_num, rfl, HT.out, HOL7.out, hkw7⟩
                  case measure => simp [intOf]; omega
                · by_cases hD : L.length = out.length
                  · have hDb : ((L.length : Int) == (out.length : Int)) = true := by rw [beq_iff_eq]; omega
                    have hDl := Lib.hid hD
                    clear hD
                    cases hl : lexlt L out
                    · have hcnd := (show ¬ (c' < (out, c').2 ∨ (c' = (out, c').2 ∧ (L.length < (out, c').1.length ∨ (L.length = (out, c').1.length ∧ lexlt L (out, c').1 = true)))) by
                        rintro (h | ⟨_, h | ⟨_, h⟩⟩)
                        · exact absurd h (Int.lt_irrefl _)
                        · exact hC h
                        · rw [hl] at h; cases h)
                      have HT := Lib.hid (show refS (Cst xs ys) k most.toNat (j + 1) = (out, c') by rw [HRS.out, if_pos (by omega)]; unfold betterR; rw [HCC.out, if_neg hcnd])
                      clear hcnd
                      have HL := Lib.hid hl
                      clear hl
                      go_wp2_with fail
                      refine (less_two al ao L.length out.length cl co L out _ hDl.out HI7.out HO7.out (by omega)).mono ?_
                      rintro e w8 ⟨rfl, hk8⟩
                      rw [HL.out]
                      go_wp2_with fail
                      go_roundw
                      case rel => exact ⟨j + 1, out, _, by omega, by go_num, rfl, HT.out, hk8.owns HOW7.out (fun _ _ h => h), hkw7.tr hk8⟩
                      case measure => simp [intOf]; omega
                    · have hcnd := (show c' < (out, c').2 ∨ (c' = (out, c').2 ∧ (L.length < (out, c').1.length ∨ (L.length = (out, c').1.length ∧ lexlt L (out, c').1 = true))) from .inr ⟨rfl, .inr ⟨hDl.out, hl⟩⟩)
                      have HT := Lib.hid (show refS (Cst xs ys) k most.toNat (j + 1) = (L, c') by rw [HRS.out, if_pos (by omega)]; unfold betterR; rw [HCC.out, if_pos hcnd])
                      clear hcnd
                      have HL := Lib.hid hl
                      clear hl
                      go_wp2_with fail
                      refine (less_two al ao L.length out.length cl co L out _ hDl.out HI7.out HO7.out (by omega)).mono ?_
                      rintro e w8 ⟨rfl, hk8⟩
                      rw [HL.out]
                      go_wp2_with fail
                      go_roundw
                      case rel => exact ⟨j + 1, L, c', by omega, by go_num, rfl, HT.out, hk8.owns HOL7.out (fun _ _ h => h), hkw7.tr hk8⟩
                      case measure => simp [intOf]; omega
                  · have hDb : ((L.length : Int) == (out.length : Int)) = false := by rw [beq_eq_false_iff_ne]; omega
                    have hcnd := (show ¬ (c' < (out, c').2 ∨ (c' = (out, c').2 ∧ (L.length < (out, c').1.length ∨ (L.length = (out, c').1.length ∧ lexlt L (out, c').1 = true)))) by
                      rintro (h | ⟨_, h | ⟨h, _⟩⟩)
                      · exact absurd h (Int.lt_irrefl _)
                      · exact hC h
                      · exact hD h)
                    have HT := Lib.hid (show refS (Cst xs ys) k most.toNat (j + 1) = (out, c') by rw [HRS.out, if_pos (by omega)]; unfold betterR; rw [HCC.out, if_neg hcnd])
                    clear hcnd
                    clear hD
                    go_wp2_with fail
                    go_roundw
                    case rel => exact ⟨j + 1, out, _, by omega, by go_num, rfl, HT.out, HOW7.out, hkw7⟩
                    case measure => simp [intOf]; omega
              · have hBb : (c' == c) = false := by rw [beq_eq_false_iff_ne]; exact hB
                have hcnd := (show ¬ (c' < (out, c).2 ∨ (c' = (out, c).2 ∧ (L.length < (out, c).1.length ∨ (L.length = (out, c).1.length ∧ lexlt L (out, c).1 = true)))) by
                  rintro (h | ⟨h, _⟩)
                  · exact hA h
                  · exact hB h)
                have HT := Lib.hid (show refS (Cst xs ys) k most.toNat (j + 1) = (out, c) by rw [HRS.out, if_pos (by omega)]; unfold betterR; rw [HCC.out, if_neg hcnd])
                clear hcnd
                clear hB
                go_wp2_with fail
                go_roundw
                case rel => exact ⟨j + 1, out, _, by omega, by go_num, rfl, HT.out, HOW7.out, hkw7⟩
                case measure => simp [intOf]; omega
          · go_wp2_with fail
            go_roundw
            case rel => exact ⟨j + 1, out, c, by omega, by go_num, rfl, by rw [HRS.out, if_neg (by omega)], HOW2.out, hkw⟩
            case measure => simp [intOf]; omega
    · have hj : (j : Int) = N - 1 := by omega
      have hj2 : j = 2 ^ m - 1 := by have := HNN.out; omega
      have HJ := Lib.hid (show refS (Cst xs ys) m most.toNat (2 ^ m - 1) = (out, c) by rw [← hj2]; exact HST.out)
      clear hj hj2
      have hpw := HPW.out
      go_wp2_with fail
      clear hpw
      obtain ⟨ao, co, rfl, _, _⟩ := own_rdi HOW.out
      refine bodyPost_ret (v := .tuple #[.slice ao out.length co, .int .i64 c]) (by simp [results, Try.results32, go_sem]) rfl ⟨_, out, c, rfl, HJ.out, HOW.out, hkp⟩
end Go.Proofs.Ytfflhlmnfhfcgaa
