/- Chapter 27: the program's Check: the walk. -/
import Derived.Test.YtjbpdimepckmfaaXClnM
import Derived.Test.YtjbpdimepckmfaaXLibStiM
import Derived.Test.YtjbpdimepckmfaaXLibHvM
namespace Go.Proofs.Ytjbpdimepckmfaa
open Go.RowKit Go.Kq

theorem kp_of_grow {w w' : World} (h : ∃ q os, w' = Sort.grow (w.drewN q) os) : Kp No w w' := by
  obtain ⟨q, os, rfl⟩ := h
  refine ⟨rfl, rfl, rfl, ?_, fun k hk _ => ?_⟩
  · show w.heap.size ≤ (w.heap ++ os).size
    simp
  · show (w.heap ++ os)[k]? = w.heap[k]?
    exact Array.getElem?_append_left hk
def cntA (l : List Wk) (i : Nat) : Array Value := ((List.range 20).map fun k : Nat => Value.int .i64 (many (l.take i) (k : Int))).toArray
theorem cntA_at (l : List Wk) (i k : Nat) (h : k < 20) : (cntA l i)[k]? = some (.int .i64 (many (l.take i) (k : Int))) := by
  unfold cntA
  simp [h]
theorem cntA_set {l : List Wk} {i k : Nat} {v : Wk} (hv : l[i]? = some v) (hk : v.wk = (k : Int)) : (cntA l i).setIfInBounds k (.int .i64 ((many (l.take i) (k : Int) : Int) + 1)) = cntA l (i + 1) := by
  apply Array.ext
  · simp [cntA]
  · intro j h1 h2
    have hj : j < 20 := by simpa [cntA] using h2
    have e : l.take (i + 1) = l.take i ++ [v] := by rw [List.take_add_one, hv]; rfl
    have h3 : (cntA l (i + 1))[j]? = _ := cntA_at l (i + 1) j hj
    have h4 : (cntA l i)[j]? = _ := cntA_at l i j hj
    rw [Array.getElem?_eq_getElem (by simpa [cntA] using hj)] at h3
    rw [Array.getElem?_eq_getElem (by simpa [cntA] using hj)] at h4
    injection h3 with h3
    injection h4 with h4
    rw [h3, Array.getElem_setIfInBounds (by simpa [cntA] using hj), e, many_snoc, hk]
    by_cases hjk : k = j
    · subst hjk
      simp
    · rw [if_neg hjk, h4, if_neg (by omega)]
      simp
set_option maxHeartbeats 4000000 in
set_option maxRecDepth 100000 in
theorem Check_any (A : Option Addr) (n ca : Nat) (l : List Wk) (w : World) (hx : RdW w A n l) (hf : Fits l) : Calls Try.prog 27 #[.slice A n ca] w fun e w' => e = .returned (.int .i64 (chkL l)) ∧ Kp No w w' := by
  have hl := hx.1
  have HF := Lib.hid hf
  clear hf
  by_cases hn : n ≤ 400
  · have HNL := Lib.hid (show ¬ 400 < l.length by omega)
    go_enter Try.func27, Try.ntmps27
    go_wp2_with fail
    go_loopw [12] (fun vi wr => ∃ i : Nat, i ≤ n ∧ vi = .int .i64 i ∧ (∀ (j : Nat) (v : Wk), j < i → l[j]? = some v → okW v = true) ∧ Kp No w wr) (fun vi _ => n - (intOf vi).toNat)
    case atStart => exact ⟨0, by omega, rfl, fun j v h => by omega, Kp.refl _ _⟩
    case round =>
      obtain ⟨i, hi, rfl, hok, hkp⟩ := hrel
      have HOK := Lib.hid hok
      clear hok
      by_cases hlt : i < n
      · obtain ⟨v, hv⟩ : ∃ v, l[i]? = some v := ⟨_, List.getElem?_eq_getElem (by omega)⟩
        obtain ⟨b, o, rfl, hb, hat⟩ := RdW.at_ (hx.no hkp) hv
        have hva := valid_any b (o + i * 11) v wr hat (HF.out v (List.mem_of_getElem? hv))
        have HV := Lib.hid hv
        clear hv hat
        go_wp2_with fail
        refine hva.mono ?_
        cases hw : okW v
        · rintro e w1 ⟨rfl, hk1⟩
          have HC := Lib.hid (chk_arg HNL.out HV.out hw)
          go_wp2_with fail
          go_ret
          exact ⟨ret_i64 HC.out.symm, hkp.tr hk1⟩
        · rintro e w1 ⟨rfl, hk1⟩
          go_wp2_with fail
          go_roundw
          case rel => exact ⟨i + 1, by omega, by go_num, fun j u hj hu => by
            by_cases e : j = i
            · subst e
              rw [HV.out] at hu
              cases hu
              exact hw
            · exact HOK.out j u (by omega) hu, hkp.tr hk1⟩
          case measure => simp [intOf]; omega
      · obtain rfl : i = n := by omega
        have HAL := Lib.hid (chk_form HNL.out (all_at fun j v hv => HOK.out j v (by have := (List.getElem?_eq_some_iff.1 hv).1; omega) hv))
        have HAO := Lib.hid (fun v (hv : v ∈ l) => (show okW v = true by obtain ⟨j, hj⟩ := List.getElem?_of_mem hv; exact HOK.out j v (by have := (List.getElem?_eq_some_iff.1 hj).1; omega) hj))
        go_wp2_with fail
        obtain ⟨W0, hW0⟩ : ∃ W0, W0 = wr.alloc (.cells #[.int .i64 0, .int .i64 0, .int .i64 0, .int .i64 0, .int .i64 0, .int .i64 0, .int .i64 0, .int .i64 0, .int .i64 0, .int .i64 0, .int .i64 0, .int .i64 0, .int .i64 0, .int .i64 0, .int .i64 0, .int .i64 0, .int .i64 0, .int .i64 0, .int .i64 0, .int .i64 0] 94) := ⟨_, rfl⟩
        obtain ⟨B, hB⟩ : ∃ B, B = wr.heap.size := ⟨_, rfl⟩
        rw [← hW0, ← hB]
        have hb0 : W0.heap[B]? = some (.cells (cntA l 0) 94 (0, 0)) := by rw [hW0, hB]; exact heap_alloc_new _ _
        have hk0 : Kp No w W0 := by rw [hW0]; exact hkp.tr (Kp.alloc _ _ _)
        have hwB : w.heap.size ≤ B := by rw [hB]; exact hkp.size
        have hBW : B < W0.heap.size := (Array.getElem?_eq_some_iff.1 hb0).1
        have HB0 := Lib.hid hb0
        clear hW0 hB hb0 hkp HOK
        go_loopw [23] (fun vi wr => ∃ i' : Nat, i' ≤ i ∧ vi = .int .i64 i' ∧ (∀ (j : Nat) (v : Wk), j < i' → l[j]? = some v → stepOk (l.take j) v = true) ∧ wr.heap[B]? = some (.cells (cntA l i') 94 (0, 0)) ∧ Kp (fun k => k = B) W0 wr) (fun vi _ => i - (intOf vi).toNat)
        case atStart => exact ⟨0, by omega, rfl, fun j v h => by omega, HB0.out, Kp.refl _ _⟩
        case round =>
          obtain ⟨i', hi', rfl, hst, hbx, hkq⟩ := hrel
          have HST := Lib.hid hst
          have HBX := Lib.hid hbx
          have hkw : Kp No w wr := hk0.trans hkq fun k hk e => by have e : k = B := e; omega
          have hszq := hkq.size
          have hBr : B < wr.heap.size := by omega
          clear hst hbx
          by_cases hlt' : i' < i
          · obtain ⟨v, hv⟩ : ∃ v, l[i']? = some v := ⟨_, List.getElem?_eq_getElem (by omega)⟩
            obtain ⟨b, o, rfl, hb, hat⟩ := RdW.at_ (hx.no hkw) hv
            have hvo := HAO.out v (List.mem_of_getElem? hv)
            obtain ⟨wk, num, ck, kd, rk, nt, fd, vl, ow, on, tx⟩ := v
            have hwk : 0 ≤ wk ∧ wk < 20 ∧ 1 ≤ num ∧ num ≤ 400 := by
              unfold okW okN at hvo
              simp only [Bool.and_eq_true, decide_eq_true_eq] at hvo
              omega
            obtain ⟨k, hk⟩ : ∃ k : Nat, wk = (k : Int) := ⟨wk.toNat, by omega⟩
            subst hk
            have hk20 : k < 20 := by omega
            have hCS := cntA_set hv rfl
            have hml := many_le (l.take i') (k : Int)
            have hml2 : (l.take i').length ≤ 400 := by rw [List.length_take]; omega
            have HSP := Lib.hid (show stepOk (l.take i') ⟨k, num, ck, kd, rk, nt, fd, vl, ow, on, tx⟩ = ((match (l.take i').getLast? with | none => true | some u => ltW u ⟨k, num, ck, kd, rk, nt, fd, vl, ow, on, tx⟩) && decide (num = (many (l.take i') (k : Int) : Int) + 1)) from rfl)
            have HV := Lib.hid hv
            have HCS := Lib.hid hCS
            obtain ⟨m, hm⟩ : ∃ m, m = many (l.take i') (k : Int) := ⟨_, rfl⟩
            have cB : wr.cell? ⟨B, k, none⟩ = some (.int .i64 m) := by rw [cell_of_row _ _ _ _ _ _ HBX.out, cntA_at l i' k hk20, hm]
            have fB : wr.frozen? ⟨B, k, none⟩ = false := by have h := HBX.out; simp [World.frozen?, h]
            rw [← hm] at hml HSP HCS
            have HM := Lib.hid hm
            have HAT := Lib.hid hat
            obtain ⟨c0, c1, c2, c3, c4, c5, c6, c7, c8, c9, c10⟩ := hat
            dsimp only at c0 c1 c2 c3 c4 c5 c6 c7 c8 c9 c10
            have hm4 : m ≤ 400 := by omega
            clear hv hCS hm hvo hml hml2
            go_wp2_with fail
            obtain ⟨G, hG⟩ : ∃ G, G = wr.heap.size := ⟨_, rfl⟩
            obtain ⟨w5, hw5⟩ : ∃ w5, w5 = (wr.setCell ⟨B, k, none⟩ (.int .i64 ((m : Int) + 1))).alloc (.cells #[.int .i64 k, .int .i64 num, .int .i64 ck, .int .i64 kd, .int .i64 rk, .int .i64 nt, .int .i64 fd, .int .i64 vl, .int .i64 ow, .int .i64 on, .string tx] 41) := ⟨_, rfl⟩
            rw [← hw5, ← hG]
            have hg5 : w5.heap[G]? = some (.cells #[.int .i64 k, .int .i64 num, .int .i64 ck, .int .i64 kd, .int .i64 rk, .int .i64 nt, .int .i64 fd, .int .i64 vl, .int .i64 ow, .int .i64 on, .string tx] 41 (0, 0)) := by
              rw [hw5, hG]
              have h := heap_alloc_new (wr.setCell ⟨B, k, none⟩ (.int .i64 ((m : Int) + 1))) (.cells #[.int .i64 k, .int .i64 num, .int .i64 ck, .int .i64 kd, .int .i64 rk, .int .i64 nt, .int .i64 fd, .int .i64 vl, .int .i64 ow, .int .i64 on, .string tx] 41)
              rwa [World.size_setCell] at h
            have hb5 : w5.heap[B]? = some (.cells (cntA l (i' + 1)) 94 (0, 0)) := by
              have h := HBX.out
              rw [hw5, Below.heap_alloc _ _ _ (by rw [World.size_setCell]; exact hBr), ← HCS.out]
              simp [World.setCell, Array.getElem?_modify, h]
            have hk5 : Kp (Kq.One B) wr w5 := by rw [hw5]; exact (kp_setOne _ _ _ _).tr (Kp.alloc _ _ _)
            have hkq5 : Kp (fun k => k = B) W0 w5 := hkq.tr hk5
            have hkw5 : Kp No w w5 := hk0.trans hkq5 fun k hk e => by have e : k = B := e; omega
            have HG5 := Lib.hid hg5
            have HB5 := Lib.hid hb5
            have hml : many (l.take (i' + 1)) (k : Int) = m + 1 := by
              rw [List.take_add_one, HV.out]
              show many (l.take i' ++ [⟨k, num, ck, kd, rk, nt, fd, vl, ow, on, tx⟩]) (k : Int) = m + 1
              rw [many_snoc, if_pos rfl, ← HM.out]
            have m0 : w5.cell? ⟨B, k, none⟩ = some (.int .i64 ((m : Int) + 1)) := by
              rw [cell_of_row _ _ _ _ _ _ HB5.out, cntA_at l (i' + 1) k hk20, hml]
              try rfl
            clear hw5 hG hg5 hb5 hk5 cB fB c0 c1 c2 c3 c4 c5 c6 c7 c8 c9 c10 hml
            have k0 : w5.cell? ⟨G, 0, none⟩ = some (.int .i64 k) := by rw [cell_of_row _ _ _ _ _ _ HG5.out]; rfl
            have k1 : w5.cell? ⟨G, 1, none⟩ = some (.int .i64 num) := by rw [cell_of_row _ _ _ _ _ _ HG5.out]; rfl
            have k2 : w5.cell? ⟨G, 2, none⟩ = some (.int .i64 ck) := by rw [cell_of_row _ _ _ _ _ _ HG5.out]; rfl
            have k3 : w5.cell? ⟨G, 3, none⟩ = some (.int .i64 kd) := by rw [cell_of_row _ _ _ _ _ _ HG5.out]; rfl
            have k4 : w5.cell? ⟨G, 4, none⟩ = some (.int .i64 rk) := by rw [cell_of_row _ _ _ _ _ _ HG5.out]; rfl
            have k5 : w5.cell? ⟨G, 5, none⟩ = some (.int .i64 nt) := by rw [cell_of_row _ _ _ _ _ _ HG5.out]; rfl
            have k6 : w5.cell? ⟨G, 6, none⟩ = some (.int .i64 fd) := by rw [cell_of_row _ _ _ _ _ _ HG5.out]; rfl
            have k7 : w5.cell? ⟨G, 7, none⟩ = some (.int .i64 vl) := by rw [cell_of_row _ _ _ _ _ _ HG5.out]; rfl
            have k8 : w5.cell? ⟨G, 8, none⟩ = some (.int .i64 ow) := by rw [cell_of_row _ _ _ _ _ _ HG5.out]; rfl
            have k9 : w5.cell? ⟨G, 9, none⟩ = some (.int .i64 on) := by rw [cell_of_row _ _ _ _ _ _ HG5.out]; rfl
            have k10 : w5.cell? ⟨G, 10, none⟩ = some (.string tx) := by rw [cell_of_row _ _ _ _ _ _ HG5.out]; rfl
            rcases Nat.eq_zero_or_pos i' with h0 | h0
            · subst h0
              by_cases hnm : num = (m : Int) + 1
              · have hne : (num != (m : Int) + 1) = false := by rw [hnm]; simp
                have HSP2 := Lib.hid (HSP.out.trans (by rw [decide_eq_true hnm]; try rfl))
                clear hnm
                go_quiet (fail)
                go_wp2
                go_roundw
                case rel => exact ⟨1, by omega, rfl, fun q v hq hv => by
                  by_cases e : q = 0
                  · subst e
                    rw [HV.out] at hv
                    cases hv
                    exact HSP2.out
                  · exact HST.out q v (by omega) hv, HB5.out, hkq5.tr (Kp.drewN _ _ _)⟩
                case measure => simp [intOf]; omega
              · have hne : (num != (m : Int) + 1) = true := by simp [hnm]
                have HSP2 := Lib.hid (HSP.out.trans (by rw [decide_eq_false hnm, Bool.and_false]))
                clear hnm
                go_quiet (fail)
                go_wp2
                go_ret
                exact ⟨ret_i64 (by rw [HAL.out, if_neg (by rw [ordOk_stop HV.out HSP2.out]; simp)]), hkw5.tr (Kp.drewN _ _ _)⟩
            · obtain ⟨j, rfl⟩ : ∃ j, i' = j + 1 := ⟨i' - 1, by omega⟩
              obtain ⟨pv, hu⟩ : ∃ pv, l[j]? = some pv := ⟨_, List.getElem?_eq_getElem (by omega)⟩
              obtain ⟨b', o', hbo, _, hau⟩ := RdW.at_ (hx.no hkw5) hu
              cases hbo
              obtain ⟨d0, d1, d2, d3, d4, d5, d6, d7, d8, d9, d10⟩ := hau
              have HLU := Lib.hid (take_last hu)
              have HSP1 : Hid (stepOk (l.take (j + 1)) ⟨k, num, ck, kd, rk, nt, fd, vl, ow, on, tx⟩ = (ltW pv ⟨k, num, ck, kd, rk, nt, fd, vl, ow, on, tx⟩ && decide (num = (m : Int) + 1))) := Lib.hid (HSP.out.trans (by rw [HLU.out]))
              clear hu h0 HSP HLU
              have hji : (j : Int) < (i : Int) := by omega
              have hcast : ((j + 1 : Nat) : Int) = (j : Int) + 1 := by omega
              rw [hcast]
              cases hlt : ltW pv ⟨k, num, ck, kd, rk, nt, fd, vl, ow, on, tx⟩
              · have hcl : decide (0 ≤ cmpW pv ⟨k, num, ck, kd, rk, nt, fd, vl, ow, on, tx⟩) = true := by rw [cmpW_neg, hlt]; rfl
                have HCL := Lib.hid hcl
                have HSP2 := Lib.hid (HSP1.out.trans (by rw [hlt]; try rfl))
                clear hcl hlt
                have FS : Stab (fun ix wz u => True) := fun ix u wz wz' kz h => trivial
                replace FS := Lib.hid FS
                refine wp_region_each (fun ix u => match ix with | 0 => u = .int .i64 ((j : Int) + 1) | 1 => u = .bool true | 2 => u = .bool true | 3 => u = .slice (some ⟨b, o, none⟩) i ca | 4 => u = .int .i64 ((j : Int) + 1) | 5 => u = .int .i64 (j : Int) | 6 => u = .pointer (some ⟨b, o + j * 11, none⟩) | 7 => u = Wk.val pv | 8 => u = Wk.val ⟨k, num, ck, kd, rk, nt, fd, vl, ow, on, tx⟩ | 9 => u = .int .i64 (cmpW pv ⟨k, num, ck, kd, rk, nt, fd, vl, ow, on, tx⟩) | 10 => u = .bool true | 11 => u = .bool true | 12 => u = .bool true | 13 => u = undef | 14 => u = undef | 15 => u = undef | 16 => u = undef | 17 => u = undef | 18 => u = undef | 19 => u = undef | 20 => u = .bool true | _ => True) (HvW w5 (fun ix wz u => True)) (by kernel_rfl) (by kernel_rfl) (by kernel_rfl) ?_ ?_ ?_
                · exact HvW.start _ _
                · refine ⟨?_, ?_, ?_, ?_, ?_, ?_, ?_, ?_, ?_, ?_, ?_, ?_, ?_, ?_, ?_, ?_, ?_, ?_, ?_, ?_, ?_, trivial⟩
                  · intro r a w' hf hg hW hr hd K hK
                    refine wpOp_of rfl rfl ?_
                    have e0 : a.tmps.getD 5 undef = .int .i64 ((j : Int) + 1) := hf.evalFree (by kernel_rfl)
                    go_simp
                    exact hK _ _ rfl (hW.upd 0 _ trivial)
                  · intro r a w' hf hg hW hr hd K hK
                    refine wpOp_of rfl rfl ?_
                    refine hf.depE hg hd 0 34 (by kernel_rfl) fun u0 e0 g0 h0 => ?_
                    replace g0 : u0 = .int .i64 ((j : Int) + 1) := g0
                    subst g0
                    have hpos : decide ((0 : Int) < (j : Int) + 1) = true := by rw [decide_eq_true_eq]; omega
                    go_simp
                    exact hK _ _ rfl (hW.upd 1 _ trivial)
                  · intro r a w' hf hg hW hr hd K hK
                    refine wpOp_of rfl rfl ?_
                    refine hf.depE hg hd 1 35 (by kernel_rfl) fun u0 e0 g0 h0 => ?_
                    replace g0 : u0 = .bool true := g0
                    subst g0
                    go_simp
                    exact hK _ _ rfl (hW.upd 2 _ trivial)
                  · intro r a w' hf hg hW hr hd K hK
                    refine hf.depE hg hd 2 36 (by kernel_rfl) fun uG eG gG _ => ?_
                    replace gG : uG = .bool true := gG
                    subst gG
                    refine wpOp_run rfl rfl rfl rfl eG ?_
                    have e0 : a.tmps.getD 0 undef = .slice (some ⟨b, o, none⟩) i ca := hf.evalFree (by kernel_rfl)
                    go_simp
                    exact hK _ _ rfl (hW.upd 3 _ trivial)
                  · intro r a w' hf hg hW hr hd K hK
                    refine hf.depE hg hd 2 36 (by kernel_rfl) fun uG eG gG _ => ?_
                    replace gG : uG = .bool true := gG
                    subst gG
                    refine wpOp_run rfl rfl rfl rfl eG ?_
                    have e0 : a.tmps.getD 5 undef = .int .i64 ((j : Int) + 1) := hf.evalFree (by kernel_rfl)
                    go_simp
                    exact hK _ _ rfl (hW.upd 4 _ trivial)
                  · intro r a w' hf hg hW hr hd K hK
                    refine hf.depE hg hd 2 36 (by kernel_rfl) fun uG eG gG _ => ?_
                    replace gG : uG = .bool true := gG
                    subst gG
                    refine wpOp_run rfl rfl rfl rfl eG ?_
                    refine hf.depE hg hd 4 38 (by kernel_rfl) fun u0 e0 g0 h0 => ?_
                    replace g0 : u0 = .int .i64 ((j : Int) + 1) := g0
                    subst g0
                    go_simp
                    rw [IntWalk.i64_in _ (by omega)]
                    exact hK _ _ rfl (hW.upd 5 _ trivial)
                  · intro r a w' hf hg hW hr hd K hK
                    refine hf.depE hg hd 2 36 (by kernel_rfl) fun uG eG gG _ => ?_
                    replace gG : uG = .bool true := gG
                    subst gG
                    refine wpOp_run rfl rfl rfl rfl eG ?_
                    refine hf.depE hg hd 3 37 (by kernel_rfl) fun u0 e0 g0 h0 => ?_
                    replace g0 : u0 = .slice (some ⟨b, o, none⟩) i ca := g0
                    subst g0
                    refine hf.depE hg hd 5 39 (by kernel_rfl) fun u1 e1 g1 h1 => ?_
                    replace g1 : u1 = .int .i64 (j : Int) := g1
                    subst g1
                    go_simp
                    exact hK _ _ rfl (hW.upd 6 _ trivial)
                  · intro r a w' hf hg hW hr hd K hK
                    refine hf.depE hg hd 2 36 (by kernel_rfl) fun uG eG gG _ => ?_
                    replace gG : uG = .bool true := gG
                    subst gG
                    refine wpOp_run rfl rfl rfl rfl eG ?_
                    refine hf.depE hg hd 6 40 (by kernel_rfl) fun u0 e0 g0 h0 => ?_
                    replace g0 : u0 = .pointer (some ⟨b, o + j * 11, none⟩) := g0
                    subst g0
                    have z0 := hW.kp.cell d0 id
                    have z1 := hW.kp.cell d1 id
                    have z2 := hW.kp.cell d2 id
                    have z3 := hW.kp.cell d3 id
                    have z4 := hW.kp.cell d4 id
                    have z5 := hW.kp.cell d5 id
                    have z6 := hW.kp.cell d6 id
                    have z7 := hW.kp.cell d7 id
                    have z8 := hW.kp.cell d8 id
                    have z9 := hW.kp.cell d9 id
                    have z10 := hW.kp.cell d10 id
                    go_simp
                    exact hK _ _ rfl (hW.upd 7 _ trivial)
                  · intro r a w' hf hg hW hr hd K hK
                    refine hf.depE hg hd 2 36 (by kernel_rfl) fun uG eG gG _ => ?_
                    replace gG : uG = .bool true := gG
                    subst gG
                    refine wpOp_run rfl rfl rfl rfl eG ?_
                    have e0 : a.tmps.getD 6 undef = .pointer (some ⟨G, 0, none⟩) := hf.evalFree (by kernel_rfl)
                    have z0 := hW.kp.cell k0 id
                    have z1 := hW.kp.cell k1 id
                    have z2 := hW.kp.cell k2 id
                    have z3 := hW.kp.cell k3 id
                    have z4 := hW.kp.cell k4 id
                    have z5 := hW.kp.cell k5 id
                    have z6 := hW.kp.cell k6 id
                    have z7 := hW.kp.cell k7 id
                    have z8 := hW.kp.cell k8 id
                    have z9 := hW.kp.cell k9 id
                    have z10 := hW.kp.cell k10 id
                    go_simp
                    exact hK _ _ rfl (hW.upd 8 _ trivial)
                  · intro r a w' hf hg hW hr hd K hK
                    refine hf.depE hg hd 2 36 (by kernel_rfl) fun uG eG gG _ => ?_
                    replace gG : uG = .bool true := gG
                    subst gG
                    refine wpOp_run rfl rfl rfl rfl eG ?_
                    refine hf.depE hg hd 7 41 (by kernel_rfl) fun u0 e0 g0 h0 => ?_
                    replace g0 : u0 = Wk.val pv := g0
                    subst g0
                    refine hf.depE hg hd 8 42 (by kernel_rfl) fun u1 e1 g1 h1 => ?_
                    replace g1 : u1 = Wk.val ⟨k, num, ck, kd, rk, nt, fd, vl, ow, on, tx⟩ := g1
                    subst g1
                    go_simp
                    refine (compare_any pv ⟨k, num, ck, kd, rk, nt, fd, vl, ow, on, tx⟩ w').mono ?_
                    rintro e w'' ⟨rfl, hg'⟩
                    exact hK _ _ rfl ((hW.call FS.out (kp_of_grow hg')).upd 9 _ trivial)
                  · intro r a w' hf hg hW hr hd K hK
                    refine hf.depE hg hd 2 36 (by kernel_rfl) fun uG eG gG _ => ?_
                    replace gG : uG = .bool true := gG
                    subst gG
                    refine wpOp_run rfl rfl rfl rfl eG ?_
                    refine hf.depE hg hd 9 43 (by kernel_rfl) fun u0 e0 g0 h0 => ?_
                    replace g0 : u0 = .int .i64 (cmpW pv ⟨k, num, ck, kd, rk, nt, fd, vl, ow, on, tx⟩) := g0
                    subst g0
                    have hcl := HCL.out
                    go_simp
                    exact hK _ _ rfl (hW.upd 10 _ trivial)
                  · intro r a w' hf hg hW hr hd K hK
                    refine wpOp_of rfl rfl ?_
                    refine hf.depE hg hd 2 36 (by kernel_rfl) fun u0 e0 g0 h0 => ?_
                    replace g0 : u0 = .bool true := g0
                    subst g0
                    have e0' := get_of_getD e0
                    refine hf.depE hg hd 10 44 (by kernel_rfl) fun u1 e1 g1 h1 => ?_
                    replace g1 : u1 = .bool true := g1
                    subst g1
                    have e1' := get_of_getD e1
                    go_simp
                    exact hK _ _ rfl (hW.upd 11 _ trivial)
                  · intro r a w' hf hg hW hr hd K hK
                    refine wpOp_of rfl rfl ?_
                    refine hf.depE hg hd 11 45 (by kernel_rfl) fun u0 e0 g0 h0 => ?_
                    replace g0 : u0 = .bool true := g0
                    subst g0
                    go_simp
                    exact hK _ _ rfl (hW.upd 12 _ trivial)
                  · intro r a w' hf hg hW hr hd K hK
                    refine hf.depE hg hd 12 46 (by kernel_rfl) fun uG eG gG _ => ?_
                    replace gG : uG = .bool true := gG
                    subst gG
                    refine wpOp_skip rfl rfl rfl rfl eG (by decide) ?_
                    exact hK _ _ rfl (hW.upd 13 _ trivial)
                  · intro r a w' hf hg hW hr hd K hK
                    refine hf.depE hg hd 12 46 (by kernel_rfl) fun uG eG gG _ => ?_
                    replace gG : uG = .bool true := gG
                    subst gG
                    refine wpOp_skip rfl rfl rfl rfl eG (by decide) ?_
                    exact hK _ _ rfl (hW.upd 14 _ trivial)
                  · intro r a w' hf hg hW hr hd K hK
                    refine hf.depE hg hd 12 46 (by kernel_rfl) fun uG eG gG _ => ?_
                    replace gG : uG = .bool true := gG
                    subst gG
                    refine wpOp_skip rfl rfl rfl rfl eG (by decide) ?_
                    exact hK _ _ rfl (hW.upd 15 _ trivial)
                  · intro r a w' hf hg hW hr hd K hK
                    refine hf.depE hg hd 12 46 (by kernel_rfl) fun uG eG gG _ => ?_
                    replace gG : uG = .bool true := gG
                    subst gG
                    refine wpOp_skip rfl rfl rfl rfl eG (by decide) ?_
                    exact hK _ _ rfl (hW.upd 16 _ trivial)
                  · intro r a w' hf hg hW hr hd K hK
                    refine hf.depE hg hd 12 46 (by kernel_rfl) fun uG eG gG _ => ?_
                    replace gG : uG = .bool true := gG
                    subst gG
                    refine wpOp_skip rfl rfl rfl rfl eG (by decide) ?_
                    exact hK _ _ rfl (hW.upd 17 _ trivial)
                  · intro r a w' hf hg hW hr hd K hK
                    refine hf.depE hg hd 12 46 (by kernel_rfl) fun uG eG gG _ => ?_
                    replace gG : uG = .bool true := gG
                    subst gG
                    refine wpOp_skip rfl rfl rfl rfl eG (by decide) ?_
                    exact hK _ _ rfl (hW.upd 18 _ trivial)
                  · intro r a w' hf hg hW hr hd K hK
                    refine hf.depE hg hd 12 46 (by kernel_rfl) fun uG eG gG _ => ?_
                    replace gG : uG = .bool true := gG
                    subst gG
                    refine wpOp_skip rfl rfl rfl rfl eG (by decide) ?_
                    exact hK _ _ rfl (hW.upd 19 _ trivial)
                  · intro r a w' hf hg hW hr hd K hK
                    refine wpOp_of rfl rfl ?_
                    refine hf.depE hg hd 12 46 (by kernel_rfl) fun u0 e0 g0 h0 => ?_
                    replace g0 : u0 = .bool true := g0
                    subst g0
                    have e0' := get_of_getD e0
                    refine hf.depE hg hd 19 53 (by kernel_rfl) fun u1 e1 g1 h1 => ?_
                    replace g1 : u1 = undef := g1
                    subst g1
                    have e1' := get_of_getD e1
                    go_simp
                    exact hK _ _ rfl (hW.upd 20 _ trivial)
                intro r' w6 hg hW hr'
                have hkN := hW.kp
                obtain ⟨q20, hq20⟩ : ∃ u, r' 20 = some u := Option.ne_none_iff_exists'.1 (hr' 20 (by decide))
                have hk20 := hg 20 q20 hq20
                replace hk20 : q20 = .bool true := hk20
                subst hk20
                simp only [List.length_cons, List.length_nil, Nat.reduceAdd, List.range_succ, List.range_zero, List.nil_append, List.cons_append, List.map_cons, List.map_nil, putAll, Act.put, List.setIfInBounds_toArray, List.set_cons_succ, List.set_cons_zero, hq20, Option.getD_some]
                clear hg hW hr' FS hq20
                go_wp2_with fail
                go_ret
                exact ⟨ret_i64 (by rw [HAL.out, if_neg (by rw [ordOk_stop HV.out HSP2.out]; simp)]), hkw5.tr hkN⟩
              · have hcl : decide (0 ≤ cmpW pv ⟨k, num, ck, kd, rk, nt, fd, vl, ow, on, tx⟩) = false := by rw [cmpW_neg, hlt]; rfl
                have HCL := Lib.hid hcl
                have HSP2 := Lib.hid (HSP1.out.trans (by rw [hlt]; try rfl))
                clear hcl hlt
                have FS : Stab (fun ix wz u => True) := fun ix u wz wz' kz h => trivial
                replace FS := Lib.hid FS
                refine wp_region_each (fun ix u => match ix with | 0 => u = .int .i64 ((j : Int) + 1) | 1 => u = .bool true | 2 => u = .bool true | 3 => u = .slice (some ⟨b, o, none⟩) i ca | 4 => u = .int .i64 ((j : Int) + 1) | 5 => u = .int .i64 (j : Int) | 6 => u = .pointer (some ⟨b, o + j * 11, none⟩) | 7 => u = Wk.val pv | 8 => u = Wk.val ⟨k, num, ck, kd, rk, nt, fd, vl, ow, on, tx⟩ | 9 => u = .int .i64 (cmpW pv ⟨k, num, ck, kd, rk, nt, fd, vl, ow, on, tx⟩) | 10 => u = .bool false | 11 => u = .bool false | 12 => u = .bool false | 13 => u = .pointer (some ⟨G, 1, none⟩) | 14 => u = .int .i64 num | 15 => u = .pointer (some ⟨G, 0, none⟩) | 16 => u = .int .i64 (k : Int) | 17 => u = .pointer (some ⟨B, k, none⟩) | 18 => u = .int .i64 ((m : Int) + 1) | 19 => u = .bool (num != (m : Int) + 1) | 20 => u = .bool (num != (m : Int) + 1) | _ => True) (HvW w5 (fun ix wz u => True)) (by kernel_rfl) (by kernel_rfl) (by kernel_rfl) ?_ ?_ ?_
                · exact HvW.start _ _
                · refine ⟨?_, ?_, ?_, ?_, ?_, ?_, ?_, ?_, ?_, ?_, ?_, ?_, ?_, ?_, ?_, ?_, ?_, ?_, ?_, ?_, ?_, trivial⟩
                  · intro r a w' hf hg hW hr hd K hK
                    refine wpOp_of rfl rfl ?_
                    have e0 : a.tmps.getD 5 undef = .int .i64 ((j : Int) + 1) := hf.evalFree (by kernel_rfl)
                    go_simp
                    exact hK _ _ rfl (hW.upd 0 _ trivial)
                  · intro r a w' hf hg hW hr hd K hK
                    refine wpOp_of rfl rfl ?_
                    refine hf.depE hg hd 0 34 (by kernel_rfl) fun u0 e0 g0 h0 => ?_
                    replace g0 : u0 = .int .i64 ((j : Int) + 1) := g0
                    subst g0
                    have hpos : decide ((0 : Int) < (j : Int) + 1) = true := by rw [decide_eq_true_eq]; omega
                    go_simp
                    exact hK _ _ rfl (hW.upd 1 _ trivial)
                  · intro r a w' hf hg hW hr hd K hK
                    refine wpOp_of rfl rfl ?_
                    refine hf.depE hg hd 1 35 (by kernel_rfl) fun u0 e0 g0 h0 => ?_
                    replace g0 : u0 = .bool true := g0
                    subst g0
                    go_simp
                    exact hK _ _ rfl (hW.upd 2 _ trivial)
                  · intro r a w' hf hg hW hr hd K hK
                    refine hf.depE hg hd 2 36 (by kernel_rfl) fun uG eG gG _ => ?_
                    replace gG : uG = .bool true := gG
                    subst gG
                    refine wpOp_run rfl rfl rfl rfl eG ?_
                    have e0 : a.tmps.getD 0 undef = .slice (some ⟨b, o, none⟩) i ca := hf.evalFree (by kernel_rfl)
                    go_simp
                    exact hK _ _ rfl (hW.upd 3 _ trivial)
                  · intro r a w' hf hg hW hr hd K hK
                    refine hf.depE hg hd 2 36 (by kernel_rfl) fun uG eG gG _ => ?_
                    replace gG : uG = .bool true := gG
                    subst gG
                    refine wpOp_run rfl rfl rfl rfl eG ?_
                    have e0 : a.tmps.getD 5 undef = .int .i64 ((j : Int) + 1) := hf.evalFree (by kernel_rfl)
                    go_simp
                    exact hK _ _ rfl (hW.upd 4 _ trivial)
                  · intro r a w' hf hg hW hr hd K hK
                    refine hf.depE hg hd 2 36 (by kernel_rfl) fun uG eG gG _ => ?_
                    replace gG : uG = .bool true := gG
                    subst gG
                    refine wpOp_run rfl rfl rfl rfl eG ?_
                    refine hf.depE hg hd 4 38 (by kernel_rfl) fun u0 e0 g0 h0 => ?_
                    replace g0 : u0 = .int .i64 ((j : Int) + 1) := g0
                    subst g0
                    go_simp
                    rw [IntWalk.i64_in _ (by omega)]
                    exact hK _ _ rfl (hW.upd 5 _ trivial)
                  · intro r a w' hf hg hW hr hd K hK
                    refine hf.depE hg hd 2 36 (by kernel_rfl) fun uG eG gG _ => ?_
                    replace gG : uG = .bool true := gG
                    subst gG
                    refine wpOp_run rfl rfl rfl rfl eG ?_
                    refine hf.depE hg hd 3 37 (by kernel_rfl) fun u0 e0 g0 h0 => ?_
                    replace g0 : u0 = .slice (some ⟨b, o, none⟩) i ca := g0
                    subst g0
                    refine hf.depE hg hd 5 39 (by kernel_rfl) fun u1 e1 g1 h1 => ?_
                    replace g1 : u1 = .int .i64 (j : Int) := g1
                    subst g1
                    go_simp
                    exact hK _ _ rfl (hW.upd 6 _ trivial)
                  · intro r a w' hf hg hW hr hd K hK
                    refine hf.depE hg hd 2 36 (by kernel_rfl) fun uG eG gG _ => ?_
                    replace gG : uG = .bool true := gG
                    subst gG
                    refine wpOp_run rfl rfl rfl rfl eG ?_
                    refine hf.depE hg hd 6 40 (by kernel_rfl) fun u0 e0 g0 h0 => ?_
                    replace g0 : u0 = .pointer (some ⟨b, o + j * 11, none⟩) := g0
                    subst g0
                    have z0 := hW.kp.cell d0 id
                    have z1 := hW.kp.cell d1 id
                    have z2 := hW.kp.cell d2 id
                    have z3 := hW.kp.cell d3 id
                    have z4 := hW.kp.cell d4 id
                    have z5 := hW.kp.cell d5 id
                    have z6 := hW.kp.cell d6 id
                    have z7 := hW.kp.cell d7 id
                    have z8 := hW.kp.cell d8 id
                    have z9 := hW.kp.cell d9 id
                    have z10 := hW.kp.cell d10 id
                    go_simp
                    exact hK _ _ rfl (hW.upd 7 _ trivial)
                  · intro r a w' hf hg hW hr hd K hK
                    refine hf.depE hg hd 2 36 (by kernel_rfl) fun uG eG gG _ => ?_
                    replace gG : uG = .bool true := gG
                    subst gG
                    refine wpOp_run rfl rfl rfl rfl eG ?_
                    have e0 : a.tmps.getD 6 undef = .pointer (some ⟨G, 0, none⟩) := hf.evalFree (by kernel_rfl)
                    have z0 := hW.kp.cell k0 id
                    have z1 := hW.kp.cell k1 id
                    have z2 := hW.kp.cell k2 id
                    have z3 := hW.kp.cell k3 id
                    have z4 := hW.kp.cell k4 id
                    have z5 := hW.kp.cell k5 id
                    have z6 := hW.kp.cell k6 id
                    have z7 := hW.kp.cell k7 id
                    have z8 := hW.kp.cell k8 id
                    have z9 := hW.kp.cell k9 id
                    have z10 := hW.kp.cell k10 id
                    go_simp
                    exact hK _ _ rfl (hW.upd 8 _ trivial)
                  · intro r a w' hf hg hW hr hd K hK
                    refine hf.depE hg hd 2 36 (by kernel_rfl) fun uG eG gG _ => ?_
                    replace gG : uG = .bool true := gG
                    subst gG
                    refine wpOp_run rfl rfl rfl rfl eG ?_
                    refine hf.depE hg hd 7 41 (by kernel_rfl) fun u0 e0 g0 h0 => ?_
                    replace g0 : u0 = Wk.val pv := g0
                    subst g0
                    refine hf.depE hg hd 8 42 (by kernel_rfl) fun u1 e1 g1 h1 => ?_
                    replace g1 : u1 = Wk.val ⟨k, num, ck, kd, rk, nt, fd, vl, ow, on, tx⟩ := g1
                    subst g1
                    go_simp
                    refine (compare_any pv ⟨k, num, ck, kd, rk, nt, fd, vl, ow, on, tx⟩ w').mono ?_
                    rintro e w'' ⟨rfl, hg'⟩
                    exact hK _ _ rfl ((hW.call FS.out (kp_of_grow hg')).upd 9 _ trivial)
                  · intro r a w' hf hg hW hr hd K hK
                    refine hf.depE hg hd 2 36 (by kernel_rfl) fun uG eG gG _ => ?_
                    replace gG : uG = .bool true := gG
                    subst gG
                    refine wpOp_run rfl rfl rfl rfl eG ?_
                    refine hf.depE hg hd 9 43 (by kernel_rfl) fun u0 e0 g0 h0 => ?_
                    replace g0 : u0 = .int .i64 (cmpW pv ⟨k, num, ck, kd, rk, nt, fd, vl, ow, on, tx⟩) := g0
                    subst g0
                    have hcl := HCL.out
                    go_simp
                    exact hK _ _ rfl (hW.upd 10 _ trivial)
                  · intro r a w' hf hg hW hr hd K hK
                    refine wpOp_of rfl rfl ?_
                    refine hf.depE hg hd 2 36 (by kernel_rfl) fun u0 e0 g0 h0 => ?_
                    replace g0 : u0 = .bool true := g0
                    subst g0
                    have e0' := get_of_getD e0
                    refine hf.depE hg hd 10 44 (by kernel_rfl) fun u1 e1 g1 h1 => ?_
                    replace g1 : u1 = .bool false := g1
                    subst g1
                    have e1' := get_of_getD e1
                    go_simp
                    exact hK _ _ rfl (hW.upd 11 _ trivial)
                  · intro r a w' hf hg hW hr hd K hK
                    refine wpOp_of rfl rfl ?_
                    refine hf.depE hg hd 11 45 (by kernel_rfl) fun u0 e0 g0 h0 => ?_
                    replace g0 : u0 = .bool false := g0
                    subst g0
                    go_simp
                    exact hK _ _ rfl (hW.upd 12 _ trivial)
                  · intro r a w' hf hg hW hr hd K hK
                    refine hf.depE hg hd 12 46 (by kernel_rfl) fun uG eG gG _ => ?_
                    replace gG : uG = .bool false := gG
                    subst gG
                    refine wpOp_run rfl rfl rfl rfl eG ?_
                    have e0 : a.tmps.getD 6 undef = .pointer (some ⟨G, 0, none⟩) := hf.evalFree (by kernel_rfl)
                    go_simp
                    exact hK _ _ rfl (hW.upd 13 _ trivial)
                  · intro r a w' hf hg hW hr hd K hK
                    refine hf.depE hg hd 12 46 (by kernel_rfl) fun uG eG gG _ => ?_
                    replace gG : uG = .bool false := gG
                    subst gG
                    refine wpOp_run rfl rfl rfl rfl eG ?_
                    refine hf.depE hg hd 13 47 (by kernel_rfl) fun u0 e0 g0 h0 => ?_
                    replace g0 : u0 = .pointer (some ⟨G, 1, none⟩) := g0
                    subst g0
                    have z0 := hW.kp.cell k1 id
                    go_simp
                    exact hK _ _ rfl (hW.upd 14 _ trivial)
                  · intro r a w' hf hg hW hr hd K hK
                    refine hf.depE hg hd 12 46 (by kernel_rfl) fun uG eG gG _ => ?_
                    replace gG : uG = .bool false := gG
                    subst gG
                    refine wpOp_run rfl rfl rfl rfl eG ?_
                    have e0 : a.tmps.getD 6 undef = .pointer (some ⟨G, 0, none⟩) := hf.evalFree (by kernel_rfl)
                    go_simp
                    exact hK _ _ rfl (hW.upd 15 _ trivial)
                  · intro r a w' hf hg hW hr hd K hK
                    refine hf.depE hg hd 12 46 (by kernel_rfl) fun uG eG gG _ => ?_
                    replace gG : uG = .bool false := gG
                    subst gG
                    refine wpOp_run rfl rfl rfl rfl eG ?_
                    refine hf.depE hg hd 15 49 (by kernel_rfl) fun u0 e0 g0 h0 => ?_
                    replace g0 : u0 = .pointer (some ⟨G, 0, none⟩) := g0
                    subst g0
                    have z0 := hW.kp.cell k0 id
                    go_simp
                    exact hK _ _ rfl (hW.upd 16 _ trivial)
                  · intro r a w' hf hg hW hr hd K hK
                    refine hf.depE hg hd 12 46 (by kernel_rfl) fun uG eG gG _ => ?_
                    replace gG : uG = .bool false := gG
                    subst gG
                    refine wpOp_run rfl rfl rfl rfl eG ?_
                    have e0 : a.tmps.getD 4 undef = .pointer (some ⟨B, 0, none⟩) := hf.evalFree (by kernel_rfl)
                    refine hf.depE hg hd 16 50 (by kernel_rfl) fun u1 e1 g1 h1 => ?_
                    replace g1 : u1 = .int .i64 (k : Int) := g1
                    subst g1
                    go_simp
                    exact hK _ _ rfl (hW.upd 17 _ trivial)
                  · intro r a w' hf hg hW hr hd K hK
                    refine hf.depE hg hd 12 46 (by kernel_rfl) fun uG eG gG _ => ?_
                    replace gG : uG = .bool false := gG
                    subst gG
                    refine wpOp_run rfl rfl rfl rfl eG ?_
                    refine hf.depE hg hd 17 51 (by kernel_rfl) fun u0 e0 g0 h0 => ?_
                    replace g0 : u0 = .pointer (some ⟨B, k, none⟩) := g0
                    subst g0
                    have z0 := hW.kp.cell m0 id
                    go_simp
                    exact hK _ _ rfl (hW.upd 18 _ trivial)
                  · intro r a w' hf hg hW hr hd K hK
                    refine hf.depE hg hd 12 46 (by kernel_rfl) fun uG eG gG _ => ?_
                    replace gG : uG = .bool false := gG
                    subst gG
                    refine wpOp_run rfl rfl rfl rfl eG ?_
                    refine hf.depE hg hd 14 48 (by kernel_rfl) fun u0 e0 g0 h0 => ?_
                    replace g0 : u0 = .int .i64 num := g0
                    subst g0
                    refine hf.depE hg hd 18 52 (by kernel_rfl) fun u1 e1 g1 h1 => ?_
                    replace g1 : u1 = .int .i64 ((m : Int) + 1) := g1
                    subst g1
                    go_simp
                    exact hK _ _ rfl (hW.upd 19 _ trivial)
                  · intro r a w' hf hg hW hr hd K hK
                    refine wpOp_of rfl rfl ?_
                    refine hf.depE hg hd 12 46 (by kernel_rfl) fun u0 e0 g0 h0 => ?_
                    replace g0 : u0 = .bool false := g0
                    subst g0
                    have e0' := get_of_getD e0
                    refine hf.depE hg hd 19 53 (by kernel_rfl) fun u1 e1 g1 h1 => ?_
                    replace g1 : u1 = .bool (num != (m : Int) + 1) := g1
                    subst g1
                    have e1' := get_of_getD e1
                    go_simp
                    exact hK _ _ rfl (hW.upd 20 _ trivial)
                intro r' w6 hg hW hr'
                have hkN := hW.kp
                obtain ⟨q20, hq20⟩ : ∃ u, r' 20 = some u := Option.ne_none_iff_exists'.1 (hr' 20 (by decide))
                have hk20 := hg 20 q20 hq20
                replace hk20 : q20 = .bool (num != (m : Int) + 1) := hk20
                subst hk20
                simp only [List.length_cons, List.length_nil, Nat.reduceAdd, List.range_succ, List.range_zero, List.nil_append, List.cons_append, List.map_cons, List.map_nil, putAll, Act.put, List.setIfInBounds_toArray, List.set_cons_succ, List.set_cons_zero, hq20, Option.getD_some]
                clear hg hW hr' FS hq20
                by_cases hnm : num = (m : Int) + 1
                · have hne : (num != (m : Int) + 1) = false := by rw [hnm]; simp
                  have HSP3 := Lib.hid (HSP2.out.trans (by rw [decide_eq_true hnm]; try rfl))
                  clear hnm
                  go_wp2_with fail
                  go_roundw
                  case rel => exact ⟨j + 1 + 1, by omega, by go_num, fun q v hq hv => by
                        by_cases e : q = j + 1
                        · subst e
                          rw [HV.out] at hv
                          cases hv
                          exact HSP3.out
                        · exact HST.out q v (by omega) hv, hkN.heap HB5.out id, hkq5.no hkN⟩
                  case measure => simp [intOf]; omega
                · have hne : (num != (m : Int) + 1) = true := by simp [hnm]
                  have HSP3 := Lib.hid (HSP2.out.trans (by rw [decide_eq_false hnm, Bool.and_false]))
                  clear hnm
                  go_wp2_with fail
                  go_ret
                  exact ⟨ret_i64 (by rw [HAL.out, if_neg (by rw [ordOk_stop HV.out HSP3.out]; simp)]), hkw5.tr hkN⟩
          · obtain rfl : i' = i := by omega
            have HO := Lib.hid (show ordOk [] l = true from ordOk_all fun j v hv => HST.out j v (by have := (List.getElem?_eq_some_iff.1 hv).1; omega) hv)
            go_wp2_with fail
            go_ret
            exact ⟨ret_i64 (by rw [HAL.out, if_pos HO.out]), hkw⟩
  · have HC := Lib.hid (chk_long (l := l) (by omega))
    go_enter Try.func27, Try.ntmps27
    go_wp2_with fail
    go_ret
    exact ⟨ret_i64 HC.out.symm, Kp.refl _ _⟩
end Go.Proofs.Ytjbpdimepckmfaa
