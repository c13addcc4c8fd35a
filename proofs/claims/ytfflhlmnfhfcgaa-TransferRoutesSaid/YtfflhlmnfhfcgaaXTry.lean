/- Chapter 33: the closure that tries all choices: its walk. -/
import Derived.Test.YtfflhlmnfhfcgaaXTrySt
namespace Go.Proofs.Ytfflhlmnfhfcgaa
open Go.RowKit Go.Kq

set_option maxHeartbeats 4000000 in
set_option maxRecDepth 100000 in
theorem try_any (B b D C n ca : Nat) (A : Option Addr) (ys : List Vc) (most : Int) (g0 : Key → Int) (U : List Key) (Cf : List Nat → Int) (hc : Costs g0 ys U Cf) (hB : B + 1 < b) (hC : b < D ∧ D ≤ C) (hn : n ≤ 14) (hyl : ys.length = n) (hm : 0 ≤ most ∧ most ≤ 14) (fuel : Nat) : ∀ (L : List Nat) (i : Nat) (r0 : List Nat × Int) (w : World), n - i < fuel → i ≤ n → L.length ≤ 14 →
    Inv B b D C n ca A ys most g0 U Cf L r0 w i w →
    Calls Try.prog 51 #[.int .i64 i, .pointer (some ⟨B, 0, none⟩), .pointer (some ⟨C + 2, 0, none⟩), .pointer (some ⟨B + 1, 0, none⟩), .pointer (some ⟨D, 0, none⟩), .pointer (some ⟨C + 1, 0, none⟩), .pointer (some ⟨C + 3, 0, none⟩), .pointer (some ⟨C + 4, 0, none⟩)] w
      fun e w' => e = .returned (.tuple #[]) ∧ Inv B b D C n ca A ys most g0 U Cf L r0 w n w' := by
  induction fuel with
  | zero =>
    intro L i r0 w hk
    omega
  | succ fuel ih =>
  intro L i r0 w hk hi hL hI
  have IH := Lib.hid ih
  clear ih
  obtain ⟨i0, hi0, hz0, hz1, hz2⟩ := info_parts info3
  go_enter Try.func51, Try.ntmps51
  go_wp2_with fail
  go_loopg [9] (n - i) (fun g s wr => ∃ j : Nat, j + g = n ∧ i ≤ j ∧ s = .int .i64 j ∧ Inv B b D C n ca A ys most g0 U Cf L r0 w j wr)
  case atStart => exact ⟨i, by omega, by omega, rfl, hI⟩
  case round =>
    obtain ⟨j, hjg, hij, rfl, ⟨⟨E, least, out, hS, hbal, hkeys, hfold, hol⟩, hkp⟩⟩ := hrel
    clear hI
    have HB := Lib.hid hbal
    have HF := Lib.hid hfold
    clear hbal hfold
    obtain ⟨vl, vo, s5, s6, s7, s8, sd⟩ := hS.rows
    obtain ⟨al, cl, rfl, hcl, hcm, hal⟩ := own_form s6
    obtain ⟨ao, co, rfl, hco, _, _⟩ := own_form s8
    have s10 := hS.map
    have s11 := hS.rd
    have d1 := cell_of_one hS.hav
    have d2 := cell_of_one hS.mst
    have d4 := cell_of_one hS.bl
    have d6 := cell_of_one hS.lst
    have l5 := cell_of_one s5
    have hsz := hS.size
    have S5 := Lib.hid s5
    have S7 := Lib.hid s7
    clear s5 s7
    by_cases hlt : j < n
    · obtain ⟨v, hv⟩ : ∃ v, ys[j]? = some v := ⟨_, List.getElem?_eq_getElem (by omega)⟩
      obtain ⟨bA, oA, rfl, hbA, a0, a1, a2, a3⟩ := s11.2 j v hv
      have hAb : ¬ Kq.One b bA := fun e => by
        have := s10.notCell (oA + j * 4)
        rw [show b = bA from e.symm, a0] at this
        cases this
      have hvq := hc.sane v (List.mem_of_getElem? hv)
      have hbdN : ∀ k, -90000 ≤ bal E k ∧ bal E k ≤ 90000 := fun k => by
        have := hc.bd L k (by omega)
        rw [HB.out]
        omega
      have hmapN := s10
      by_cases hmo : (L.length : Int) < most
      · go_wp2_with fail
        refine wp_region_each (fun i u => match i with
            | 0 => u = .map (some b) | 1 => u = .slice (some ⟨bA, oA, none⟩) n ca | 2 => u = .int .i64 j | 3 => u = .pointer (some ⟨bA, oA + j * 4, none⟩) | 4 => u = v.val | _ => True)
          (fun r w' => Kp (Kq.One b) wr w' ∧ (r 6 = none → MapAt w' b ek (Value.int .i64) E) ∧ (∀ u, r 5 = some u → r 6 = none → ∃ g, u = .slice (some ⟨g, 0, none⟩) 1 1 ∧ RdV w' (some ⟨g, 0, none⟩) 1 [v]) ∧ (r 6 ≠ none → MapAt w' b ek (Value.int .i64) (addV (-1) E v) ∧ r 5 ≠ none)) (by kernel_rfl) (by kernel_rfl) (by kernel_rfl) ?_ ?_ ?_
        · exact ⟨Kp.drew _ _, fun _ => hmapN.drew, fun u hu => (by cases hu), fun h => absurd rfl h⟩
        · refine ⟨?_, ?_, ?_, ?_, ?_, ?_, ?_, trivial⟩
          · intro r a w' hf hg hW hr hd K hK
            refine wpOp_of rfl rfl ?_
            have e0 : a.tmps.getD 4 undef = .pointer (some ⟨D, 0, none⟩) := hf.evalFree (by kernel_rfl)
            have y0 := hW.1.cell d4 (by show ¬ D = b; omega)
            go_simp
            exact hK _ _ rfl hW
          · intro r a w' hf hg hW hr hd K hK
            refine wpOp_of rfl rfl ?_
            have e0 : a.tmps.getD 1 undef = .pointer (some ⟨B, 0, none⟩) := hf.evalFree (by kernel_rfl)
            have y0 := hW.1.cell d1 (by show ¬ B = b; omega)
            go_simp
            exact hK _ _ rfl hW
          · intro r a w' hf hg hW hr hd K hK
            refine wpOp_of rfl rfl ?_
            have e0 : a.tmps.getD 9 undef = .int .i64 j := hf.evalFree (by kernel_rfl)
            go_simp
            exact hK _ _ rfl hW
          · intro r a w' hf hg hW hr hd K hK
            refine wpOp_of rfl rfl ?_
            refine hf.depE hg hd 1 25 (by kernel_rfl) fun u1 e0 g1 _ => ?_
            replace g1 : u1 = .slice (some ⟨bA, oA, none⟩) n ca := g1
            subst g1
            refine hf.depE hg hd 2 26 (by kernel_rfl) fun u2 e1 g2 _ => ?_
            replace g2 : u2 = .int .i64 j := g2
            subst g2
            go_simp
            exact hK _ _ rfl hW
          · intro r a w' hf hg hW hr hd K hK
            refine wpOp_of rfl rfl ?_
            refine hf.depE hg hd 3 27 (by kernel_rfl) fun u3 e0 g3 _ => ?_
            replace g3 : u3 = .pointer (some ⟨bA, oA + j * 4, none⟩) := g3
            subst g3
            have z0 := hW.1.cell a0 hAb
            have z1 := hW.1.cell a1 hAb
            have z2 := hW.1.cell a2 hAb
            have z3 := hW.1.cell a3 hAb
            go_simp
            exact hK _ _ rfl hW
          · intro r a w' hf hg hW hr hd K hK
            refine wpOp_of rfl rfl ?_
            refine hf.depE hg hd 4 28 (by kernel_rfl) fun u4 e0 g4 _ => ?_
            replace g4 : u4 = .agg #[.int .i64 v.d, .int .i64 v.p, .int .i64 v.f, .int .i64 v.q] := g4
            subst g4
            have e0' := get_of_getD e0
            go_simp
            refine hK _ _ trivial ⟨hW.1.tr (Kp.alloc _ _ _), fun h => (hW.2.1 h).alloc _, fun u hu _ => ⟨w'.heap.size, ?_, ?_⟩, fun h => absurd hr (hW.2.2.2 h).2⟩
            · rw [upd_same] at hu
              cases hu
              rfl
            · exact rdv_one w' v
          · intro r a w' hf hg hW hr hd K hK
            refine wpOp_of rfl rfl ?_
            refine hf.depE hg hd 0 24 (by kernel_rfl) fun u0 e0 g0 _ => ?_
            replace g0 : u0 = .map (some b) := g0
            subst g0
            refine hf.depE hg hd 5 29 (by kernel_rfl) fun u5 e1 _ h5 => ?_
            obtain ⟨g, rfl, hrd⟩ := hW.2.2.1 u5 h5 hr
            go_simp
            refine (add_any b 1 1 (-1) 90000 (some ⟨g, 0, none⟩) [v] E w' (hW.2.1 hr) hrd (by omega) (by omega) (fun u hu => by simp at hu; rw [hu]; exact hvq) (by omega) hbdN).mono ?_
            rintro e w'' ⟨rfl, hm2, hk2⟩
            refine hK _ _ trivial ⟨hW.1.tr hk2, fun h => ?_, fun u hu h6 => ?_, fun _ => ⟨hm2, ?_⟩⟩
            · rw [upd_same] at h
              cases h
            · rw [upd_same] at h6
              cases h6
            · rw [upd_ne _ _ (by omega), h5]
              simp
        · intro r' w2 hg hW hr'
          have hmapN2 := (hW.2.2.2 (hr' 6 (by decide))).1
          have hkN := hW.1
          clear hg hW hr'
          simp only [List.length_cons, List.length_nil, Nat.reduceAdd, List.range_succ, List.range_zero, List.nil_append, List.cons_append, List.map_cons, List.map_nil, putAll, Act.put, List.setIfInBounds_toArray, List.set_cons_succ, List.set_cons_zero]
          have hS2 := hS.bal hB hC hkN hmapN2
          have nb : ∀ k, k ≠ b → ¬ Kq.One b k := fun k hk e => hk e
          have t5 := hkN.heap S5.out (nb _ (by omega))
          have t7 := hkN.heap S7.out (nb _ (by omega))
          have t6 := hkN.owns s6 (fun g hg => nb _ (by have := (own_ge s6 hg).1; omega))
          have t8 := hkN.owns s8 (fun g hg => nb _ (by have := (own_ge s8 hg).1; omega))
          have q5 := cell_of_one t5
          have f5 := free_of_one t5
          have hsz2 := hS2.size
          have T5 := Lib.hid t5
          have T7 := Lib.hid t7
          have SD := Lib.hid sd
          have HK2 := Lib.hid (hkp.trans hkN (fun k _ h => .inl h))
          clear t5 t7 sd hkN hmapN2 hkp s6 s8 S5 S7 hS d1 d2 d4 d6 l5 hmapN s10 s11 a0 a1 a2 a3 hbdN
          go_wp2_with (at_builtin; refine stop_in ?_)
          refine stop_out ?_
          refine wpList_append_own_at _ rfl _ _ 23 rfl (C + 5) 3 i0 (.int .i64 0) 1 8 Try.underlying23 hi0 hz0 hz1 hz2 rfl (by decide) (.slice al L.length cl) L.length (L.map natV) rfl (t6.alloc (.cells #[.int .i64 j] 3)) ⟨w2.heap.size, 0, none⟩ 1 1 [.int .i64 j] rfl rfl (cell_one_new w2 _ _) (ints_oneCell .i64 [(j : Int)]) (by unfold maxLen; omega) (by omega) (by simp; omega) ?_
          intro v' w3 hown' hgrow hnil hat
          obtain ⟨a', c', rfl, hc1, hc2, hc3⟩ := own_form hown'
          obtain ⟨hS4, hk4⟩ := hS2.push hB hC T5.out t6 T7.out t8 SD.out hown' hgrow hat
          obtain ⟨w3a, w3b, w3c⟩ := push_cells hC hS2 T5.out t6 hgrow
          have HK4 := Lib.hid (HK2.out.tr hk4)
          have hbal2 : ∀ k, bal (addV (-1) E v) k = tk g0 ys (L ++ [j]) k := fun k => by
            rw [bal_addV_eq, HB.out, tk_snoc g0 ys j v hv k L]
            split <;> omega
          have HB2 := Lib.hid hbal2
          have hkeys2 := keys_addV (-1) E v U (hc.inU v (List.mem_of_getElem? hv)) hkeys
          have HKY := Lib.hid hkeys2
          clear hbal2 hkeys2 hown' hgrow hnil hat hk4 t6 t8 q5 f5 hS2 hsz2
          go_wp2_with fail
          generalize addV (-1) E v = E2 at *
          generalize hw4 : w3.setCell ⟨C + 2, 0, none⟩ (.slice a' (L.length + 1) c') = w4 at *
          clear hw4 w3a w3b w3c
          have hE2l : E2.length ≤ 1000 := by
            have h1 := nodup_len (keys E2) U hS4.map.nodup HKY.out
            have h2 := hc.few
            simp [keys] at h1
            omega
          refine (cost_any b E2 _ hS4.map hE2l (fun k => by have := hc.bd (L ++ [j]) k (by simp; omega); rw [HB2.out]; omega)).mono ?_
          rintro e w5 ⟨⟨c, rfl, hIs⟩, hk5⟩
          have hcc := hc.cost E2 (L ++ [j]) c hS4.map.nodup HB2.out HKY.out hIs
          have HCC := Lib.hid hcc
          have hS5 := hS4.no hB hC hk5
          have HK5 := Lib.hid (HK4.out.no hk5)
          clear hcc hIs hS4 hk5
          obtain ⟨v5, o5, p5, p6, p7, p8, pd⟩ := hS5.rows
          obtain ⟨a5, c5, rfl, hc5, hc6, hc7⟩ := own_form p6
          obtain ⟨a6, c6, rfl, hc8, hc9, _⟩ := own_form p8
          have d5 := cell_of_one p5
          have d7 := cell_of_one p7
          have d6 := cell_of_one hS5.lst
          have d8 := cell_of_one hS5.tr
          have f6 := free_of_one hS5.lst
          have f7 := free_of_one p7
          have hsz5 := hS5.size
          have hL1 : (L ++ [j]).length = L.length + 1 := by simp
          have P5 := Lib.hid p5
          have P6 := Lib.hid p6
          have P7 := Lib.hid p7
          have PD := Lib.hid pd
          clear p5 p6 p7 pd
          have W7 : ∀ (w7 : World), (∃ leastN outN, St B b D C n ca (some ⟨bA, oA, none⟩) ys most (L ++ [j]) E2 leastN outN w7 ∧ better Cf (out, least) (L ++ [j]) = (outN, leastN) ∧ Kp (Tu b C) w w7 ∧ outN.length ≤ 14) → Hid (∃ leastN outN, St B b D C n ca (some ⟨bA, oA, none⟩) ys most (L ++ [j]) E2 leastN outN w7 ∧ better Cf (out, least) (L ++ [j]) = (outN, leastN) ∧ Kp (Tu b C) w w7 ∧ outN.length ≤ 14) := fun _ h => Lib.hid h
          by_cases hbt : c < least ∨ (c = least ∧ (L ++ [j]).length < out.length)
          · have HN := Lib.hid (show better Cf (out, least) (L ++ [j]) = (L ++ [j], c) by unfold better; rw [← HCC.out, if_pos hbt])
            obtain ⟨g5, rfl⟩ := hc7 (by rw [hL1]; omega)
            rcases hbt with hbt | ⟨hbe0, hbt⟩
            · go_wp2_with fail
              have P6' := P6.out
              rw [hL1] at P6'
              refine (clone_any g5 (L.length + 1) c5 (C + 5) ((L ++ [j]).map natV) w5 P6' (fun u hu => by obtain ⟨x, _, rfl⟩ := List.mem_map.1 hu; rfl) (by omega)).mono ?_
              rintro e w6 ⟨v6, rfl, hown6, hk6⟩
              obtain ⟨a7, c7, rfl, _, _, _⟩ := own_form hown6
              have hS6 := hS5.no hB hC hk6
              have x6 := hk6.cell d6 id
              have x7 := hk6.cell d7 id
              have x8 := hk6.cell d8 id
              have y6 : w6.frozen? ⟨C + 1, 0, none⟩ = false := free_of_one hS6.lst
              have y7 : w6.frozen? ⟨C + 3, 0, none⟩ = false := free_of_one (hk6.heap P7.out id)
              have hS7 := hS6.take (c := c) (v2 := .slice a7 (L.length + 1) c7) (B1 := w5.heap.size) hB hC hsz5 (fun g hg ⟨v, hv, hvg⟩ => by
                have h1 := hk6.heap P5.out id
                rw [h1] at hv
                cases hv
                exact (own_ge P6' hvg).2) (by rw [hL1]; exact hown6)
              have H7 := W7 _ ⟨c, L ++ [j], hS7.1, HN.out, (HK5.out.no hk6).tr hS7.2, by rw [hL1]; omega⟩
              clear hS7 hown6 HN hS6
              go_wp2_with fail
              generalize (w6.setCell ⟨C + 1, 0, none⟩ (.int .i64 c)).setCell ⟨C + 3, 0, none⟩ (.slice a7 (L.length + 1) c7) = w7 at *
              have hIH := fun w7 leastN outN (hS7 : St B b D C n ca (some ⟨bA, oA, none⟩) ys most (L ++ [j]) E2 leastN outN w7) hoN => IH.out (L ++ [j]) (j + 1) _ w7 (by omega) (by omega) (by rw [hL1]; omega) ⟨⟨E2, leastN, outN, hS7, HB2.out, HKY.out, rfl, hoN⟩, Kp.refl _ _⟩
              obtain ⟨leastN, outN, hS7, hbet, hk7, hoN⟩ : ∃ leastN outN, St B b D C n ca (some ⟨bA, oA, none⟩) ys most (L ++ [j]) E2 leastN outN _ ∧ better Cf (out, least) (L ++ [j]) = (outN, leastN) ∧ Kp (Tu b C) w _ ∧ outN.length ≤ 14 := H7.out
              have hcall := hIH _ leastN outN hS7 hoN
              rw [show ((j + 1 : Nat) : Int) = (j : Int) + 1 from by omega] at hcall
              have HBET := Lib.hid hbet
              have HK7 := Lib.hid hk7
              clear hIH H7 W7 hbet hk7 hS5 d5 d6 d7 d8 f6 f7 P5 P6 P7 PD p8 HK5 HK4
              refine hcall.mono ?_
              clear hcall
              rintro e w8 ⟨rfl, ⟨⟨E3, least3, out3, hS8, hbal8, hkeys8, hfold8, hol8⟩, hkp8⟩⟩
              have HB8 := Lib.hid hbal8
              have HKY8 := Lib.hid hkeys8
              have HF8 := Lib.hid hfold8
              have HK8 := Lib.hid (HK7.out.tr hkp8)
              clear hbal8 hkeys8 hfold8 hkp8
              obtain ⟨v5, o5, p5, p6, p7, p8, pd⟩ := hS8.rows
              rw [hL1] at p6
              obtain ⟨a5', c5', rfl, hc5', hc6', hc7'⟩ := own_form p6
              obtain ⟨g8, rfl⟩ := hc7' (by omega)
              have d5 := cell_of_one p5
              have f5 := free_of_one p5
              have hpop := hS8.pop hB hC p5 p6 p7 p8 pd
              have HP := Lib.hid hpop
              clear hpop p6 p8 p7 pd
              go_wp2_with fail
              replace HP := HP.out
              generalize w8.setCell ⟨C + 2, 0, none⟩ (.slice (some ⟨g8, 0, none⟩) L.length c5') = w9 at *
              obtain ⟨hS9, hk9⟩ := HP
              have HK9 := Lib.hid (HK8.out.tr hk9)
              clear hk9 hS8 d5 f5 hcl hcm hal hco hc1 hc2 hc3 hc5 hc6 hc8 hc9 hc5' hc6' hc7' hE2l
              have d1 := cell_of_one hS9.hav
              have d4 := cell_of_one hS9.bl
              have hmapN := hS9.map
              obtain ⟨bA', oA', hAe, hbA', a0, a1, a2, a3⟩ := hS9.rd.2 j v hv
              cases hAe
              have hbdN : ∀ k, -90000 ≤ bal E3 k ∧ bal E3 k ≤ 90000 := fun k => by
                have := hc.bd (L ++ [j]) k (by rw [hL1]; omega)
                rw [HB8.out]
                omega
              refine wp_region_each (fun i u => match i with
                  | 0 => u = .map (some b) | 1 => u = .slice (some ⟨bA, oA, none⟩) n ca | 2 => u = .int .i64 j | 3 => u = .pointer (some ⟨bA, oA + j * 4, none⟩) | 4 => u = v.val | _ => True)
                (fun r w' => Kp (Kq.One b) w9 w' ∧ (r 6 = none → MapAt w' b ek (Value.int .i64) E3) ∧ (∀ u, r 5 = some u → r 6 = none → ∃ g, u = .slice (some ⟨g, 0, none⟩) 1 1 ∧ RdV w' (some ⟨g, 0, none⟩) 1 [v]) ∧ (r 6 ≠ none → MapAt w' b ek (Value.int .i64) (addV (1) E3 v) ∧ r 5 ≠ none)) (by kernel_rfl) (by kernel_rfl) (by kernel_rfl) ?_ ?_ ?_
              · exact ⟨Kp.drew _ _, fun _ => hmapN.drew, fun u hu => (by cases hu), fun h => absurd rfl h⟩
              · refine ⟨?_, ?_, ?_, ?_, ?_, ?_, ?_, trivial⟩
                · intro r a w' hf hg hW hr hd K hK
                  refine wpOp_of rfl rfl ?_
                  have e0 : a.tmps.getD 4 undef = .pointer (some ⟨D, 0, none⟩) := hf.evalFree (by kernel_rfl)
                  have y0 := hW.1.cell d4 (by show ¬ D = b; omega)
                  go_simp
                  exact hK _ _ rfl hW
                · intro r a w' hf hg hW hr hd K hK
                  refine wpOp_of rfl rfl ?_
                  have e0 : a.tmps.getD 1 undef = .pointer (some ⟨B, 0, none⟩) := hf.evalFree (by kernel_rfl)
                  have y0 := hW.1.cell d1 (by show ¬ B = b; omega)
                  go_simp
                  exact hK _ _ rfl hW
                · intro r a w' hf hg hW hr hd K hK
                  refine wpOp_of rfl rfl ?_
                  have e0 : a.tmps.getD 9 undef = .int .i64 j := hf.evalFree (by kernel_rfl)
                  go_simp
                  exact hK _ _ rfl hW
                · intro r a w' hf hg hW hr hd K hK
                  refine wpOp_of rfl rfl ?_
                  refine hf.depE hg hd 1 65 (by kernel_rfl) fun u1 e0 g1 _ => ?_
                  replace g1 : u1 = .slice (some ⟨bA, oA, none⟩) n ca := g1
                  subst g1
                  refine hf.depE hg hd 2 66 (by kernel_rfl) fun u2 e1 g2 _ => ?_
                  replace g2 : u2 = .int .i64 j := g2
                  subst g2
                  go_simp
                  exact hK _ _ rfl hW
                · intro r a w' hf hg hW hr hd K hK
                  refine wpOp_of rfl rfl ?_
                  refine hf.depE hg hd 3 67 (by kernel_rfl) fun u3 e0 g3 _ => ?_
                  replace g3 : u3 = .pointer (some ⟨bA, oA + j * 4, none⟩) := g3
                  subst g3
                  have z0 := hW.1.cell a0 hAb
                  have z1 := hW.1.cell a1 hAb
                  have z2 := hW.1.cell a2 hAb
                  have z3 := hW.1.cell a3 hAb
                  go_simp
                  exact hK _ _ rfl hW
                · intro r a w' hf hg hW hr hd K hK
                  refine wpOp_of rfl rfl ?_
                  refine hf.depE hg hd 4 68 (by kernel_rfl) fun u4 e0 g4 _ => ?_
                  replace g4 : u4 = .agg #[.int .i64 v.d, .int .i64 v.p, .int .i64 v.f, .int .i64 v.q] := g4
                  subst g4
                  have e0' := get_of_getD e0
                  go_simp
                  refine hK _ _ trivial ⟨hW.1.tr (Kp.alloc _ _ _), fun h => (hW.2.1 h).alloc _, fun u hu _ => ⟨w'.heap.size, ?_, ?_⟩, fun h => absurd hr (hW.2.2.2 h).2⟩
                  · rw [upd_same] at hu
                    cases hu
                    rfl
                  · exact rdv_one w' v
                · intro r a w' hf hg hW hr hd K hK
                  refine wpOp_of rfl rfl ?_
                  refine hf.depE hg hd 0 64 (by kernel_rfl) fun u0 e0 g0 _ => ?_
                  replace g0 : u0 = .map (some b) := g0
                  subst g0
                  refine hf.depE hg hd 5 69 (by kernel_rfl) fun u5 e1 _ h5 => ?_
                  obtain ⟨g, rfl, hrd⟩ := hW.2.2.1 u5 h5 hr
                  go_simp
                  refine (add_any b 1 1 (1) 90000 (some ⟨g, 0, none⟩) [v] E3 w' (hW.2.1 hr) hrd (by omega) (by omega) (fun u hu => by simp at hu; rw [hu]; exact hvq) (by omega) hbdN).mono ?_
                  rintro e w'' ⟨rfl, hm2, hk2⟩
                  refine hK _ _ trivial ⟨hW.1.tr hk2, fun h => ?_, fun u hu h6 => ?_, fun _ => ⟨hm2, ?_⟩⟩
                  · rw [upd_same] at h
                    cases h
                  · rw [upd_same] at h6
                    cases h6
                  · rw [upd_ne _ _ (by omega), h5]
                    simp
              · intro r' w10 hg hW hr'
                have hmapN2 := (hW.2.2.2 (hr' 6 (by decide))).1
                have hkN := hW.1
                clear hg hW hr'
                simp only [List.length_cons, List.length_nil, Nat.reduceAdd, List.range_succ, List.range_zero, List.nil_append, List.cons_append, List.map_cons, List.map_nil, putAll, Act.put, List.setIfInBounds_toArray, List.set_cons_succ, List.set_cons_zero]
                have hS10 := hS9.bal hB hC hkN hmapN2
                have HK10 := Lib.hid (HK9.out.trans hkN (fun k _ h => .inl h))
                clear hkN hmapN2 hS9 d1 d4 hmapN a0 a1 a2 a3 hbdN
                have hb10 : ∀ k, bal (addV 1 E3 v) k = tk g0 ys L k := fun k => by
                  rw [bal_addV_eq, HB8.out, tk_snoc g0 ys j v hv k L]
                  split <;> omega
                have HB10 := Lib.hid hb10
                have HKY10 := Lib.hid (keys_addV 1 E3 v U (hc.inU v (List.mem_of_getElem? hv)) HKY8.out)
                have HF10 := Lib.hid (fold_step (m := most.toNat) hlt (by omega) HF.out HBET.out HF8.out)
                clear hb10
                go_wp2
                go_roundg (gk - 1)
                case measure => omega
                case rel => exact ⟨j + 1, by omega, by omega, by go_num, ⟨⟨_, _, _, hS10, HB10.out, HKY10.out, HF10.out, hol8⟩, HK10.out⟩⟩
            · have hlt2 : ¬ c < least := by omega
              have hbe : (c == least) = true := by rw [beq_iff_eq]; exact hbe0
              clear hbe0
              go_wp2_with fail
              have P6' := P6.out
              rw [hL1] at P6'
              refine (clone_any g5 (L.length + 1) c5 (C + 5) ((L ++ [j]).map natV) w5 P6' (fun u hu => by obtain ⟨x, _, rfl⟩ := List.mem_map.1 hu; rfl) (by omega)).mono ?_
              rintro e w6 ⟨v6, rfl, hown6, hk6⟩
              obtain ⟨a7, c7, rfl, _, _, _⟩ := own_form hown6
              have hS6 := hS5.no hB hC hk6
              have x6 := hk6.cell d6 id
              have x7 := hk6.cell d7 id
              have x8 := hk6.cell d8 id
              have y6 : w6.frozen? ⟨C + 1, 0, none⟩ = false := free_of_one hS6.lst
              have y7 : w6.frozen? ⟨C + 3, 0, none⟩ = false := free_of_one (hk6.heap P7.out id)
              have hS7 := hS6.take (c := c) (v2 := .slice a7 (L.length + 1) c7) (B1 := w5.heap.size) hB hC hsz5 (fun g hg ⟨v, hv, hvg⟩ => by
                have h1 := hk6.heap P5.out id
                rw [h1] at hv
                cases hv
                exact (own_ge P6' hvg).2) (by rw [hL1]; exact hown6)
              have H7 := W7 _ ⟨c, L ++ [j], hS7.1, HN.out, (HK5.out.no hk6).tr hS7.2, by rw [hL1]; omega⟩
              clear hS7 hown6 HN hS6
              go_wp2_with fail
              generalize (w6.setCell ⟨C + 1, 0, none⟩ (.int .i64 c)).setCell ⟨C + 3, 0, none⟩ (.slice a7 (L.length + 1) c7) = w7 at *
              have hIH := fun w7 leastN outN (hS7 : St B b D C n ca (some ⟨bA, oA, none⟩) ys most (L ++ [j]) E2 leastN outN w7) hoN => IH.out (L ++ [j]) (j + 1) _ w7 (by omega) (by omega) (by rw [hL1]; omega) ⟨⟨E2, leastN, outN, hS7, HB2.out, HKY.out, rfl, hoN⟩, Kp.refl _ _⟩
              obtain ⟨leastN, outN, hS7, hbet, hk7, hoN⟩ : ∃ leastN outN, St B b D C n ca (some ⟨bA, oA, none⟩) ys most (L ++ [j]) E2 leastN outN _ ∧ better Cf (out, least) (L ++ [j]) = (outN, leastN) ∧ Kp (Tu b C) w _ ∧ outN.length ≤ 14 := H7.out
              have hcall := hIH _ leastN outN hS7 hoN
              rw [show ((j + 1 : Nat) : Int) = (j : Int) + 1 from by omega] at hcall
              have HBET := Lib.hid hbet
              have HK7 := Lib.hid hk7
              clear hIH H7 W7 hbet hk7 hS5 d5 d6 d7 d8 f6 f7 P5 P6 P7 PD p8 HK5 HK4
              refine hcall.mono ?_
              clear hcall
              rintro e w8 ⟨rfl, ⟨⟨E3, least3, out3, hS8, hbal8, hkeys8, hfold8, hol8⟩, hkp8⟩⟩
              have HB8 := Lib.hid hbal8
              have HKY8 := Lib.hid hkeys8
              have HF8 := Lib.hid hfold8
              have HK8 := Lib.hid (HK7.out.tr hkp8)
              clear hbal8 hkeys8 hfold8 hkp8
              obtain ⟨v5, o5, p5, p6, p7, p8, pd⟩ := hS8.rows
              rw [hL1] at p6
              obtain ⟨a5', c5', rfl, hc5', hc6', hc7'⟩ := own_form p6
              obtain ⟨g8, rfl⟩ := hc7' (by omega)
              have d5 := cell_of_one p5
              have f5 := free_of_one p5
              have hpop := hS8.pop hB hC p5 p6 p7 p8 pd
              have HP := Lib.hid hpop
              clear hpop p6 p8 p7 pd
              go_wp2_with fail
              replace HP := HP.out
              generalize w8.setCell ⟨C + 2, 0, none⟩ (.slice (some ⟨g8, 0, none⟩) L.length c5') = w9 at *
              obtain ⟨hS9, hk9⟩ := HP
              have HK9 := Lib.hid (HK8.out.tr hk9)
              clear hk9 hS8 d5 f5 hcl hcm hal hco hc1 hc2 hc3 hc5 hc6 hc8 hc9 hc5' hc6' hc7' hE2l
              have d1 := cell_of_one hS9.hav
              have d4 := cell_of_one hS9.bl
              have hmapN := hS9.map
              obtain ⟨bA', oA', hAe, hbA', a0, a1, a2, a3⟩ := hS9.rd.2 j v hv
              cases hAe
              have hbdN : ∀ k, -90000 ≤ bal E3 k ∧ bal E3 k ≤ 90000 := fun k => by
                have := hc.bd (L ++ [j]) k (by rw [hL1]; omega)
                rw [HB8.out]
                omega
              refine wp_region_each (fun i u => match i with
                  | 0 => u = .map (some b) | 1 => u = .slice (some ⟨bA, oA, none⟩) n ca | 2 => u = .int .i64 j | 3 => u = .pointer (some ⟨bA, oA + j * 4, none⟩) | 4 => u = v.val | _ => True)
                (fun r w' => Kp (Kq.One b) w9 w' ∧ (r 6 = none → MapAt w' b ek (Value.int .i64) E3) ∧ (∀ u, r 5 = some u → r 6 = none → ∃ g, u = .slice (some ⟨g, 0, none⟩) 1 1 ∧ RdV w' (some ⟨g, 0, none⟩) 1 [v]) ∧ (r 6 ≠ none → MapAt w' b ek (Value.int .i64) (addV (1) E3 v) ∧ r 5 ≠ none)) (by kernel_rfl) (by kernel_rfl) (by kernel_rfl) ?_ ?_ ?_
              · exact ⟨Kp.drew _ _, fun _ => hmapN.drew, fun u hu => (by cases hu), fun h => absurd rfl h⟩
              · refine ⟨?_, ?_, ?_, ?_, ?_, ?_, ?_, trivial⟩
                · intro r a w' hf hg hW hr hd K hK
                  refine wpOp_of rfl rfl ?_
                  have e0 : a.tmps.getD 4 undef = .pointer (some ⟨D, 0, none⟩) := hf.evalFree (by kernel_rfl)
                  have y0 := hW.1.cell d4 (by show ¬ D = b; omega)
                  go_simp
                  exact hK _ _ rfl hW
                · intro r a w' hf hg hW hr hd K hK
                  refine wpOp_of rfl rfl ?_
                  have e0 : a.tmps.getD 1 undef = .pointer (some ⟨B, 0, none⟩) := hf.evalFree (by kernel_rfl)
                  have y0 := hW.1.cell d1 (by show ¬ B = b; omega)
                  go_simp
                  exact hK _ _ rfl hW
                · intro r a w' hf hg hW hr hd K hK
                  refine wpOp_of rfl rfl ?_
                  have e0 : a.tmps.getD 9 undef = .int .i64 j := hf.evalFree (by kernel_rfl)
                  go_simp
                  exact hK _ _ rfl hW
                · intro r a w' hf hg hW hr hd K hK
                  refine wpOp_of rfl rfl ?_
                  refine hf.depE hg hd 1 65 (by kernel_rfl) fun u1 e0 g1 _ => ?_
                  replace g1 : u1 = .slice (some ⟨bA, oA, none⟩) n ca := g1
                  subst g1
                  refine hf.depE hg hd 2 66 (by kernel_rfl) fun u2 e1 g2 _ => ?_
                  replace g2 : u2 = .int .i64 j := g2
                  subst g2
                  go_simp
                  exact hK _ _ rfl hW
                · intro r a w' hf hg hW hr hd K hK
                  refine wpOp_of rfl rfl ?_
                  refine hf.depE hg hd 3 67 (by kernel_rfl) fun u3 e0 g3 _ => ?_
                  replace g3 : u3 = .pointer (some ⟨bA, oA + j * 4, none⟩) := g3
                  subst g3
                  have z0 := hW.1.cell a0 hAb
                  have z1 := hW.1.cell a1 hAb
                  have z2 := hW.1.cell a2 hAb
                  have z3 := hW.1.cell a3 hAb
                  go_simp
                  exact hK _ _ rfl hW
                · intro r a w' hf hg hW hr hd K hK
                  refine wpOp_of rfl rfl ?_
                  refine hf.depE hg hd 4 68 (by kernel_rfl) fun u4 e0 g4 _ => ?_
                  replace g4 : u4 = .agg #[.int .i64 v.d, .int .i64 v.p, .int .i64 v.f, .int .i64 v.q] := g4
                  subst g4
                  have e0' := get_of_getD e0
                  go_simp
                  refine hK _ _ trivial ⟨hW.1.tr (Kp.alloc _ _ _), fun h => (hW.2.1 h).alloc _, fun u hu _ => ⟨w'.heap.size, ?_, ?_⟩, fun h => absurd hr (hW.2.2.2 h).2⟩
                  · rw [upd_same] at hu
                    cases hu
                    rfl
                  · exact rdv_one w' v
                · intro r a w' hf hg hW hr hd K hK
                  refine wpOp_of rfl rfl ?_
                  refine hf.depE hg hd 0 64 (by kernel_rfl) fun u0 e0 g0 _ => ?_
                  replace g0 : u0 = .map (some b) := g0
                  subst g0
                  refine hf.depE hg hd 5 69 (by kernel_rfl) fun u5 e1 _ h5 => ?_
                  obtain ⟨g, rfl, hrd⟩ := hW.2.2.1 u5 h5 hr
                  go_simp
                  refine (add_any b 1 1 (1) 90000 (some ⟨g, 0, none⟩) [v] E3 w' (hW.2.1 hr) hrd (by omega) (by omega) (fun u hu => by simp at hu; rw [hu]; exact hvq) (by omega) hbdN).mono ?_
                  rintro e w'' ⟨rfl, hm2, hk2⟩
                  refine hK _ _ trivial ⟨hW.1.tr hk2, fun h => ?_, fun u hu h6 => ?_, fun _ => ⟨hm2, ?_⟩⟩
                  · rw [upd_same] at h
                    cases h
                  · rw [upd_same] at h6
                    cases h6
                  · rw [upd_ne _ _ (by omega), h5]
                    simp
              · intro r' w10 hg hW hr'
                have hmapN2 := (hW.2.2.2 (hr' 6 (by decide))).1
                have hkN := hW.1
                clear hg hW hr'
                simp only [List.length_cons, List.length_nil, Nat.reduceAdd, List.range_succ, List.range_zero, List.nil_append, List.cons_append, List.map_cons, List.map_nil, putAll, Act.put, List.setIfInBounds_toArray, List.set_cons_succ, List.set_cons_zero]
                have hS10 := hS9.bal hB hC hkN hmapN2
                have HK10 := Lib.hid (HK9.out.trans hkN (fun k _ h => .inl h))
                clear hkN hmapN2 hS9 d1 d4 hmapN a0 a1 a2 a3 hbdN
                have hb10 : ∀ k, bal (addV 1 E3 v) k = tk g0 ys L k := fun k => by
                  rw [bal_addV_eq, HB8.out, tk_snoc g0 ys j v hv k L]
                  split <;> omega
                have HB10 := Lib.hid hb10
                have HKY10 := Lib.hid (keys_addV 1 E3 v U (hc.inU v (List.mem_of_getElem? hv)) HKY8.out)
                have HF10 := Lib.hid (fold_step (m := most.toNat) hlt (by omega) HF.out HBET.out HF8.out)
                clear hb10
                go_wp2
                go_roundg (gk - 1)
                case measure => omega
                case rel => exact ⟨j + 1, by omega, by omega, by go_num, ⟨⟨_, _, _, hS10, HB10.out, HKY10.out, HF10.out, hol8⟩, HK10.out⟩⟩
          · have HN := Lib.hid (show better Cf (out, least) (L ++ [j]) = (out, least) by unfold better; rw [← HCC.out, if_neg hbt])
            have H7 := W7 w5 ⟨least, out, hS5, HN.out, HK5.out, hol⟩
            clear HN
            by_cases he : c = least
            · have hlt2 : ¬ c < least := by omega
              have hbe : (c == least) = true := by rw [beq_iff_eq]; exact he
              have hne : ¬ (L ++ [j]).length < out.length := fun h => hbt (.inr ⟨he, h⟩)
              clear he hbt
              go_wp2_with fail
              have hIH := fun w7 leastN outN (hS7 : St B b D C n ca (some ⟨bA, oA, none⟩) ys most (L ++ [j]) E2 leastN outN w7) hoN => IH.out (L ++ [j]) (j + 1) _ w7 (by omega) (by omega) (by rw [hL1]; omega) ⟨⟨E2, leastN, outN, hS7, HB2.out, HKY.out, rfl, hoN⟩, Kp.refl _ _⟩
              obtain ⟨leastN, outN, hS7, hbet, hk7, hoN⟩ : ∃ leastN outN, St B b D C n ca (some ⟨bA, oA, none⟩) ys most (L ++ [j]) E2 leastN outN _ ∧ better Cf (out, least) (L ++ [j]) = (outN, leastN) ∧ Kp (Tu b C) w _ ∧ outN.length ≤ 14 := H7.out
              have hcall := hIH _ leastN outN hS7 hoN
              rw [show ((j + 1 : Nat) : Int) = (j : Int) + 1 from by omega] at hcall
              have HBET := Lib.hid hbet
              have HK7 := Lib.hid hk7
              clear hIH H7 W7 hbet hk7 hS5 d5 d6 d7 d8 f6 f7 P5 P6 P7 PD p8 HK5 HK4
              refine hcall.mono ?_
              clear hcall
              rintro e w8 ⟨rfl, ⟨⟨E3, least3, out3, hS8, hbal8, hkeys8, hfold8, hol8⟩, hkp8⟩⟩
              have HB8 := Lib.hid hbal8
              have HKY8 := Lib.hid hkeys8
              have HF8 := Lib.hid hfold8
              have HK8 := Lib.hid (HK7.out.tr hkp8)
              clear hbal8 hkeys8 hfold8 hkp8
              obtain ⟨v5, o5, p5, p6, p7, p8, pd⟩ := hS8.rows
              rw [hL1] at p6
              obtain ⟨a5', c5', rfl, hc5', hc6', hc7'⟩ := own_form p6
              obtain ⟨g8, rfl⟩ := hc7' (by omega)
              have d5 := cell_of_one p5
              have f5 := free_of_one p5
              have hpop := hS8.pop hB hC p5 p6 p7 p8 pd
              have HP := Lib.hid hpop
              clear hpop p6 p8 p7 pd
              go_wp2_with fail
              replace HP := HP.out
              generalize w8.setCell ⟨C + 2, 0, none⟩ (.slice (some ⟨g8, 0, none⟩) L.length c5') = w9 at *
              obtain ⟨hS9, hk9⟩ := HP
              have HK9 := Lib.hid (HK8.out.tr hk9)
              clear hk9 hS8 d5 f5 hcl hcm hal hco hc1 hc2 hc3 hc5 hc6 hc8 hc9 hc5' hc6' hc7' hE2l
              have d1 := cell_of_one hS9.hav
              have d4 := cell_of_one hS9.bl
              have hmapN := hS9.map
              obtain ⟨bA', oA', hAe, hbA', a0, a1, a2, a3⟩ := hS9.rd.2 j v hv
              cases hAe
              have hbdN : ∀ k, -90000 ≤ bal E3 k ∧ bal E3 k ≤ 90000 := fun k => by
                have := hc.bd (L ++ [j]) k (by rw [hL1]; omega)
                rw [HB8.out]
                omega
              refine wp_region_each (fun i u => match i with
                  | 0 => u = .map (some b) | 1 => u = .slice (some ⟨bA, oA, none⟩) n ca | 2 => u = .int .i64 j | 3 => u = .pointer (some ⟨bA, oA + j * 4, none⟩) | 4 => u = v.val | _ => True)
                (fun r w' => Kp (Kq.One b) w9 w' ∧ (r 6 = none → MapAt w' b ek (Value.int .i64) E3) ∧ (∀ u, r 5 = some u → r 6 = none → ∃ g, u = .slice (some ⟨g, 0, none⟩) 1 1 ∧ RdV w' (some ⟨g, 0, none⟩) 1 [v]) ∧ (r 6 ≠ none → MapAt w' b ek (Value.int .i64) (addV (1) E3 v) ∧ r 5 ≠ none)) (by kernel_rfl) (by kernel_rfl) (by kernel_rfl) ?_ ?_ ?_
              · exact ⟨Kp.drew _ _, fun _ => hmapN.drew, fun u hu => (by cases hu), fun h => absurd rfl h⟩
              · refine ⟨?_, ?_, ?_, ?_, ?_, ?_, ?_, trivial⟩
                · intro r a w' hf hg hW hr hd K hK
                  refine wpOp_of rfl rfl ?_
                  have e0 : a.tmps.getD 4 undef = .pointer (some ⟨D, 0, none⟩) := hf.evalFree (by kernel_rfl)
                  have y0 := hW.1.cell d4 (by show ¬ D = b; omega)
                  go_simp
                  exact hK _ _ rfl hW
                · intro r a w' hf hg hW hr hd K hK
                  refine wpOp_of rfl rfl ?_
                  have e0 : a.tmps.getD 1 undef = .pointer (some ⟨B, 0, none⟩) := hf.evalFree (by kernel_rfl)
                  have y0 := hW.1.cell d1 (by show ¬ B = b; omega)
                  go_simp
                  exact hK _ _ rfl hW
                · intro r a w' hf hg hW hr hd K hK
                  refine wpOp_of rfl rfl ?_
                  have e0 : a.tmps.getD 9 undef = .int .i64 j := hf.evalFree (by kernel_rfl)
                  go_simp
                  exact hK _ _ rfl hW
                · intro r a w' hf hg hW hr hd K hK
                  refine wpOp_of rfl rfl ?_
                  refine hf.depE hg hd 1 65 (by kernel_rfl) fun u1 e0 g1 _ => ?_
                  replace g1 : u1 = .slice (some ⟨bA, oA, none⟩) n ca := g1
                  subst g1
                  refine hf.depE hg hd 2 66 (by kernel_rfl) fun u2 e1 g2 _ => ?_
                  replace g2 : u2 = .int .i64 j := g2
                  subst g2
                  go_simp
                  exact hK _ _ rfl hW
                · intro r a w' hf hg hW hr hd K hK
                  refine wpOp_of rfl rfl ?_
                  refine hf.depE hg hd 3 67 (by kernel_rfl) fun u3 e0 g3 _ => ?_
                  replace g3 : u3 = .pointer (some ⟨bA, oA + j * 4, none⟩) := g3
                  subst g3
                  have z0 := hW.1.cell a0 hAb
                  have z1 := hW.1.cell a1 hAb
                  have z2 := hW.1.cell a2 hAb
                  have z3 := hW.1.cell a3 hAb
                  go_simp
                  exact hK _ _ rfl hW
                · intro r a w' hf hg hW hr hd K hK
                  refine wpOp_of rfl rfl ?_
                  refine hf.depE hg hd 4 68 (by kernel_rfl) fun u4 e0 g4 _ => ?_
                  replace g4 : u4 = .agg #[.int .i64 v.d, .int .i64 v.p, .int .i64 v.f, .int .i64 v.q] := g4
                  subst g4
                  have e0' := get_of_getD e0
                  go_simp
                  refine hK _ _ trivial ⟨hW.1.tr (Kp.alloc _ _ _), fun h => (hW.2.1 h).alloc _, fun u hu _ => ⟨w'.heap.size, ?_, ?_⟩, fun h => absurd hr (hW.2.2.2 h).2⟩
                  · rw [upd_same] at hu
                    cases hu
                    rfl
                  · exact rdv_one w' v
                · intro r a w' hf hg hW hr hd K hK
                  refine wpOp_of rfl rfl ?_
                  refine hf.depE hg hd 0 64 (by kernel_rfl) fun u0 e0 g0 _ => ?_
                  replace g0 : u0 = .map (some b) := g0
                  subst g0
                  refine hf.depE hg hd 5 69 (by kernel_rfl) fun u5 e1 _ h5 => ?_
                  obtain ⟨g, rfl, hrd⟩ := hW.2.2.1 u5 h5 hr
                  go_simp
                  refine (add_any b 1 1 (1) 90000 (some ⟨g, 0, none⟩) [v] E3 w' (hW.2.1 hr) hrd (by omega) (by omega) (fun u hu => by simp at hu; rw [hu]; exact hvq) (by omega) hbdN).mono ?_
                  rintro e w'' ⟨rfl, hm2, hk2⟩
                  refine hK _ _ trivial ⟨hW.1.tr hk2, fun h => ?_, fun u hu h6 => ?_, fun _ => ⟨hm2, ?_⟩⟩
                  · rw [upd_same] at h
                    cases h
                  · rw [upd_same] at h6
                    cases h6
                  · rw [upd_ne _ _ (by omega), h5]
                    simp
              · intro r' w10 hg hW hr'
                have hmapN2 := (hW.2.2.2 (hr' 6 (by decide))).1
                have hkN := hW.1
                clear hg hW hr'
                simp only [List.length_cons, List.length_nil, Nat.reduceAdd, List.range_succ, List.range_zero, List.nil_append, List.cons_append, List.map_cons, List.map_nil, putAll, Act.put, List.setIfInBounds_toArray, List.set_cons_succ, List.set_cons_zero]
                have hS10 := hS9.bal hB hC hkN hmapN2
                have HK10 := Lib.hid (HK9.out.trans hkN (fun k _ h => .inl h))
                clear hkN hmapN2 hS9 d1 d4 hmapN a0 a1 a2 a3 hbdN
                have hb10 : ∀ k, bal (addV 1 E3 v) k = tk g0 ys L k := fun k => by
                  rw [bal_addV_eq, HB8.out, tk_snoc g0 ys j v hv k L]
                  split <;> omega
                have HB10 := Lib.hid hb10
                have HKY10 := Lib.hid (keys_addV 1 E3 v U (hc.inU v (List.mem_of_getElem? hv)) HKY8.out)
                have HF10 := Lib.hid (fold_step (m := most.toNat) hlt (by omega) HF.out HBET.out HF8.out)
                clear hb10
                go_wp2
                go_roundg (gk - 1)
                case measure => omega
                case rel => exact ⟨j + 1, by omega, by omega, by go_num, ⟨⟨_, _, _, hS10, HB10.out, HKY10.out, HF10.out, hol8⟩, HK10.out⟩⟩
            · have hlt2 : ¬ c < least := fun h => hbt (.inl h)
              have hbe : (c == least) = false := by rw [beq_eq_false_iff_ne]; exact he
              clear he hbt
              go_wp2_with fail
              have hIH := fun w7 leastN outN (hS7 : St B b D C n ca (some ⟨bA, oA, none⟩) ys most (L ++ [j]) E2 leastN outN w7) hoN => IH.out (L ++ [j]) (j + 1) _ w7 (by omega) (by omega) (by rw [hL1]; omega) ⟨⟨E2, leastN, outN, hS7, HB2.out, HKY.out, rfl, hoN⟩, Kp.refl _ _⟩
              obtain ⟨leastN, outN, hS7, hbet, hk7, hoN⟩ : ∃ leastN outN, St B b D C n ca (some ⟨bA, oA, none⟩) ys most (L ++ [j]) E2 leastN outN _ ∧ better Cf (out, least) (L ++ [j]) = (outN, leastN) ∧ Kp (Tu b C) w _ ∧ outN.length ≤ 14 := H7.out
              have hcall := hIH _ leastN outN hS7 hoN
              rw [show ((j + 1 : Nat) : Int) = (j : Int) + 1 from by omega] at hcall
              have HBET := Lib.hid hbet
              have HK7 := Lib.hid hk7
              clear hIH H7 W7 hbet hk7 hS5 d5 d6 d7 d8 f6 f7 P5 P6 P7 PD p8 HK5 HK4
              refine hcall.mono ?_
              clear hcall
              rintro e w8 ⟨rfl, ⟨⟨E3, least3, out3, hS8, hbal8, hkeys8, hfold8, hol8⟩, hkp8⟩⟩
              have HB8 := Lib.hid hbal8
              have HKY8 := Lib.hid hkeys8
              have HF8 := Lib.hid hfold8
              have HK8 := Lib.hid (HK7.out.tr hkp8)
              clear hbal8 hkeys8 hfold8 hkp8
              obtain ⟨v5, o5, p5, p6, p7, p8, pd⟩ := hS8.rows
              rw [hL1] at p6
              obtain ⟨a5', c5', rfl, hc5', hc6', hc7'⟩ := own_form p6
              obtain ⟨g8, rfl⟩ := hc7' (by omega)
              have d5 := cell_of_one p5
              have f5 := free_of_one p5
              have hpop := hS8.pop hB hC p5 p6 p7 p8 pd
              have HP := Lib.hid hpop
              clear hpop p6 p8 p7 pd
              go_wp2_with fail
              replace HP := HP.out
              generalize w8.setCell ⟨C + 2, 0, none⟩ (.slice (some ⟨g8, 0, none⟩) L.length c5') = w9 at *
              obtain ⟨hS9, hk9⟩ := HP
              have HK9 := Lib.hid (HK8.out.tr hk9)
              clear hk9 hS8 d5 f5 hcl hcm hal hco hc1 hc2 hc3 hc5 hc6 hc8 hc9 hc5' hc6' hc7' hE2l
              have d1 := cell_of_one hS9.hav
              have d4 := cell_of_one hS9.bl
              have hmapN := hS9.map
              obtain ⟨bA', oA', hAe, hbA', a0, a1, a2, a3⟩ := hS9.rd.2 j v hv
              cases hAe
              have hbdN : ∀ k, -90000 ≤ bal E3 k ∧ bal E3 k ≤ 90000 := fun k => by
                have := hc.bd (L ++ [j]) k (by rw [hL1]; omega)
                rw [HB8.out]
                omega
              refine wp_region_each (fun i u => match i with
                  | 0 => u = .map (some b) | 1 => u = .slice (some ⟨bA, oA, none⟩) n ca | 2 => u = .int .i64 j | 3 => u = .pointer (some ⟨bA, oA + j * 4, none⟩) | 4 => u = v.val | _ => True)
                (fun r w' => Kp (Kq.One b) w9 w' ∧ (r 6 = none → MapAt w' b ek (Value.int .i64) E3) ∧ (∀ u, r 5 = some u → r 6 = none → ∃ g, u = .slice (some ⟨g, 0, none⟩) 1 1 ∧ RdV w' (some ⟨g, 0, none⟩) 1 [v]) ∧ (r 6 ≠ none → MapAt w' b ek (Value.int .i64) (addV (1) E3 v) ∧ r 5 ≠ none)) (by kernel_rfl) (by kernel_rfl) (by kernel_rfl) ?_ ?_ ?_
              · exact ⟨Kp.drew _ _, fun _ => hmapN.drew, fun u hu => (by cases hu), fun h => absurd rfl h⟩
              · refine ⟨?_, ?_, ?_, ?_, ?_, ?_, ?_, trivial⟩
                · intro r a w' hf hg hW hr hd K hK
                  refine wpOp_of rfl rfl ?_
                  have e0 : a.tmps.getD 4 undef = .pointer (some ⟨D, 0, none⟩) := hf.evalFree (by kernel_rfl)
                  have y0 := hW.1.cell d4 (by show ¬ D = b; omega)
                  go_simp
                  exact hK _ _ rfl hW
                · intro r a w' hf hg hW hr hd K hK
                  refine wpOp_of rfl rfl ?_
                  have e0 : a.tmps.getD 1 undef = .pointer (some ⟨B, 0, none⟩) := hf.evalFree (by kernel_rfl)
                  have y0 := hW.1.cell d1 (by show ¬ B = b; omega)
                  go_simp
                  exact hK _ _ rfl hW
                · intro r a w' hf hg hW hr hd K hK
                  refine wpOp_of rfl rfl ?_
                  have e0 : a.tmps.getD 9 undef = .int .i64 j := hf.evalFree (by kernel_rfl)
                  go_simp
                  exact hK _ _ rfl hW
                · intro r a w' hf hg hW hr hd K hK
                  refine wpOp_of rfl rfl ?_
                  refine hf.depE hg hd 1 65 (by kernel_rfl) fun u1 e0 g1 _ => ?_
                  replace g1 : u1 = .slice (some ⟨bA, oA, none⟩) n ca := g1
                  subst g1
                  refine hf.depE hg hd 2 66 (by kernel_rfl) fun u2 e1 g2 _ => ?_
                  replace g2 : u2 = .int .i64 j := g2
                  subst g2
                  go_simp
                  exact hK _ _ rfl hW
                · intro r a w' hf hg hW hr hd K hK
                  refine wpOp_of rfl rfl ?_
                  refine hf.depE hg hd 3 67 (by kernel_rfl) fun u3 e0 g3 _ => ?_
                  replace g3 : u3 = .pointer (some ⟨bA, oA + j * 4, none⟩) := g3
                  subst g3
                  have z0 := hW.1.cell a0 hAb
                  have z1 := hW.1.cell a1 hAb
                  have z2 := hW.1.cell a2 hAb
                  have z3 := hW.1.cell a3 hAb
                  go_simp
                  exact hK _ _ rfl hW
                · intro r a w' hf hg hW hr hd K hK
                  refine wpOp_of rfl rfl ?_
                  refine hf.depE hg hd 4 68 (by kernel_rfl) fun u4 e0 g4 _ => ?_
                  replace g4 : u4 = .agg #[.int .i64 v.d, .int .i64 v.p, .int .i64 v.f, .int .i64 v.q] := g4
                  subst g4
                  have e0' := get_of_getD e0
                  go_simp
                  refine hK _ _ trivial ⟨hW.1.tr (Kp.alloc _ _ _), fun h => (hW.2.1 h).alloc _, fun u hu _ => ⟨w'.heap.size, ?_, ?_⟩, fun h => absurd hr (hW.2.2.2 h).2⟩
                  · rw [upd_same] at hu
                    cases hu
                    rfl
                  · exact rdv_one w' v
                · intro r a w' hf hg hW hr hd K hK
                  refine wpOp_of rfl rfl ?_
                  refine hf.depE hg hd 0 64 (by kernel_rfl) fun u0 e0 g0 _ => ?_
                  replace g0 : u0 = .map (some b) := g0
                  subst g0
                  refine hf.depE hg hd 5 69 (by kernel_rfl) fun u5 e1 _ h5 => ?_
                  obtain ⟨g, rfl, hrd⟩ := hW.2.2.1 u5 h5 hr
                  go_simp
                  refine (add_any b 1 1 (1) 90000 (some ⟨g, 0, none⟩) [v] E3 w' (hW.2.1 hr) hrd (by omega) (by omega) (fun u hu => by simp at hu; rw [hu]; exact hvq) (by omega) hbdN).mono ?_
                  rintro e w'' ⟨rfl, hm2, hk2⟩
                  refine hK _ _ trivial ⟨hW.1.tr hk2, fun h => ?_, fun u hu h6 => ?_, fun _ => ⟨hm2, ?_⟩⟩
                  · rw [upd_same] at h
                    cases h
                  · rw [upd_same] at h6
                    cases h6
                  · rw [upd_ne _ _ (by omega), h5]
                    simp
              · intro r' w10 hg hW hr'
                have hmapN2 := (hW.2.2.2 (hr' 6 (by decide))).1
                have hkN := hW.1
                clear hg hW hr'
                simp only [List.length_cons, List.length_nil, Nat.reduceAdd, List.range_succ, List.range_zero, List.nil_append, List.cons_append, List.map_cons, List.map_nil, putAll, Act.put, List.setIfInBounds_toArray, List.set_cons_succ, List.set_cons_zero]
                have hS10 := hS9.bal hB hC hkN hmapN2
                have HK10 := Lib.hid (HK9.out.trans hkN (fun k _ h => .inl h))
                clear hkN hmapN2 hS9 d1 d4 hmapN a0 a1 a2 a3 hbdN
                have hb10 : ∀ k, bal (addV 1 E3 v) k = tk g0 ys L k := fun k => by
                  rw [bal_addV_eq, HB8.out, tk_snoc g0 ys j v hv k L]
                  split <;> omega
                have HB10 := Lib.hid hb10
                have HKY10 := Lib.hid (keys_addV 1 E3 v U (hc.inU v (List.mem_of_getElem? hv)) HKY8.out)
                have HF10 := Lib.hid (fold_step (m := most.toNat) hlt (by omega) HF.out HBET.out HF8.out)
                clear hb10
                go_wp2
                go_roundg (gk - 1)
                case measure => omega
                case rel => exact ⟨j + 1, by omega, by omega, by go_num, ⟨⟨_, _, _, hS10, HB10.out, HKY10.out, HF10.out, hol8⟩, HK10.out⟩⟩
      · have hI2 : Inv B b D C n ca _ ys most g0 U Cf L r0 w n wr := ⟨⟨E, least, out, hS, HB.out, hkeys, by
          have h := HF.out
          rw [subs_stop (by omega)] at h ⊢
          exact h, hol⟩, hkp⟩
        have HI2 := Lib.hid hI2
        clear hI2
        go_wp2
        go_end0
        exact ⟨rfl, HI2.out⟩
    · have hI2 : Inv B b D C n ca _ ys most g0 U Cf L r0 w n wr := ⟨⟨E, least, out, hS, HB.out, hkeys, by
        have h := HF.out
        rw [subs_stop (by omega)] at h ⊢
        exact h, hol⟩, hkp⟩
      have HI2 := Lib.hid hI2
      clear hI2
      go_wp2
      go_end0
      exact ⟨rfl, HI2.out⟩
end Go.Proofs.Ytfflhlmnfhfcgaa
