/- Chapter 27: the statements' counting: the walk. -/
import Derived.Test.YtjbpdimepckmfaaXNxtPM
namespace Go.Proofs.Ytjbpdimepckmfaa
open Go.RowKit Go.Kq

theorem law0_len (i : Nat) (wo : Int) : (law0 i wo).length = i := by simp [law0]
theorem fill_set (n i : Nat) (wo : Int) (h : i < n) : (law0 i wo ++ List.replicate (n - i) false).set i ((i : Int) != wo) = law0 (i + 1) wo ++ List.replicate (n - (i + 1)) false := by
  rw [List.set_append_right _ _ (by rw [law0_len]; omega), law0_len, Nat.sub_self]
  obtain ⟨d, hd⟩ : ∃ d, n - i = d + 1 := ⟨n - i - 1, by omega⟩
  rw [hd, show n - (i + 1) = d by omega, List.replicate_succ, List.set_cons_zero]
  unfold law0
  rw [List.range_succ, List.map_append]
  simp
theorem fill_at (n i : Nat) (wo : Int) (h : i < n) : (law0 i wo ++ List.replicate (n - i) false)[i]? = some false := by
  rw [List.getElem?_append_right (by rw [law0_len]; omega), law0_len, Nat.sub_self, List.getElem?_replicate, if_pos (by omega)]
set_option maxHeartbeats 1000000 in
set_option maxRecDepth 100000 in
theorem lcount_any (A : Option Addr) (n ca : Nat) (l : List Wk) (wo : Int) (w : World) (hx : RdW w A n l) (hn : n ≤ 1000) :
    Calls Try.prog 19 #[.slice A n ca, .int .i64 wo] w fun e w' => ∃ G, e = .returned (.slice (some ⟨G, 0, none⟩) n n) ∧ w'.ownsRow w.heap.size 4 1 (.slice (some ⟨G, 0, none⟩) n n) n ((lawL l wo).map Value.bool) ∧ Kp No w w' := by
  have hl := hx.1
  have hmk := fun w => make_bools n (by omega) w
  have HX := Lib.hid hx
  have HL := Lib.hid hl
  clear hx hl
  go_enter Try.func19, Try.ntmps19
  go_wp2_with fail
  obtain ⟨W1, hW1⟩ : ∃ W1, W1 = w.alloc (.cells (List.replicate n (Value.bool false)).toArray 4) := ⟨_, rfl⟩
  have hown : W1.ownsRow w.heap.size 4 1 (.slice (some ⟨w.heap.size, 0, none⟩) n n) n (List.replicate n (Value.bool false)) := by
    rw [hW1]
    exact own_made w (by simp) (Nat.le_refl _) (by unfold maxLen; omega)
  have hk1 : Kp No w W1 := by rw [hW1]; exact Kp.alloc _ _ _
  simp only [List.toArray_replicate] at hW1
  rw [← hW1]
  have HO := Lib.hid hown
  clear hW1 hown hmk
  go_loopw [6] (fun vi wr => ∃ i : Nat, i ≤ n ∧ vi = .int .i64 i ∧ wr.ownsRow w.heap.size 4 1 (.slice (some ⟨w.heap.size, 0, none⟩) n n) n ((law0 i wo ++ List.replicate (n - i) false).map Value.bool) ∧ Kp No w wr) (fun vi _ => n - (intOf vi).toNat)
  case atStart => exact ⟨0, by omega, rfl, by simpa [law0] using HO.out, hk1⟩
  case round =>
    obtain ⟨i, hi, rfl, how, hkp⟩ := hrel
    have HOW := Lib.hid how
    clear how
    by_cases hlt : i < n
    · have c1 : wr.cell? ⟨w.heap.size, i, none⟩ = some (.bool false) := own_cell HOW.out (by rw [List.getElem?_map, fill_at n i wo hlt]; rfl)
      have f1 := own_free HOW.out i
      have HS := Lib.hid (fill_set n i wo hlt)
      have hin : (i : Int) < (n : Int) := by omega
      generalize hq : ((i : Int) != wo) = q at HS
      have HQ := Lib.hid hq
      clear hq
      have hgl := (own_ge HOW.out (g := w.heap.size) rfl).2
      go_wp2_with fail
      all_goals
        go_roundw
        case rel =>
          refine ⟨i + 1, by omega, by go_num, ?_, hkp.trans (kp_setOne _ _ _ _) fun k hk e => by have e : k = w.heap.size := e; omega⟩
          rw [← HS.out, List.map_set]
          first
            | exact own_set HOW.out i _
            | (rw [← HQ.out]; exact own_set HOW.out i _)
        case measure => simp [intOf]; omega
    · obtain rfl : i = n := by omega
      have HO2 : Hid (wr.ownsRow w.heap.size 4 1 (.slice (some ⟨w.heap.size, 0, none⟩) i i) i ((lawAt l wo 0).map Value.bool)) := Lib.hid (by have h := HOW.out; rw [Nat.sub_self] at h; unfold lawAt; rw [HL.out]; simpa using h)
      obtain ⟨W2, rfl⟩ : ∃ W2 : World, W2 = wr := ⟨_, rfl⟩
      go_wp2_with fail
      clear HOW HO hk1
      go_loopw [7] (fun vi wr => ∃ (m : Nat) (x : Int), m ≤ i ∧ vi = .int .i64 x ∧ x = (i : Int) - 1 - m ∧ wr.ownsRow w.heap.size 4 1 (.slice (some ⟨w.heap.size, 0, none⟩) i i) i ((lawAt l wo m).map Value.bool) ∧ Kp No w wr) (fun vi _ => (intOf vi + 1).toNat)
      case atStart => exact ⟨0, _, by omega, rfl, by omega, HO2.out, hkp⟩
      case round =>
        obtain ⟨m, x, hm, rfl, hx0, how, hkp⟩ := hrel
        have HOW := Lib.hid how
        clear how
        by_cases hlt : m < i
        · obtain ⟨j, hj⟩ : ∃ j, j = i - 1 - m := ⟨_, rfl⟩
          obtain rfl : x = (j : Int) := by omega
          have hjn : j < i := by omega
          have HST := Lib.hid (show lawAt l wo (m + 1) = lawS l j (lawAt l wo m) by rw [lawAt, HL.out, hj])
          have hul := lawAt_len l wo m
          rw [HL.out] at hul
          obtain ⟨q, hq⟩ : ∃ q, (lawAt l wo m)[j]? = some q := ⟨_, List.getElem?_eq_getElem (by omega)⟩
          obtain ⟨v, hv⟩ : ∃ v, l[j]? = some v := ⟨_, List.getElem?_eq_getElem (by rw [HL.out]; omega)⟩
          obtain ⟨b, o, rfl, hb, hat⟩ := RdW.at_ (HX.out.no hkp) hv
          have HX0 := Lib.hid hx0
          have HJ := Lib.hid hj
          have HV := Lib.hid hv
          have HQ := Lib.hid hq
          have HAT := Lib.hid hat
          have HSS := Lib.hid (show lawS l j (lawAt l wo m) = if q && decide (v.kd = 4) then lawK l j j (lawAt l wo m) else lawAt l wo m by unfold lawS isU; rw [List.getD_eq_getElem?_getD, hq, hv]; rfl)
          have hjc : (j : Int) < (i : Int) := by omega
          clear hx0 hj hv hq hat hul
          have hq1 : wr.cell? ⟨w.heap.size, j, none⟩ = some (.bool q) := own_cell HOW.out (by rw [List.getElem?_map, HQ.out]; rfl)
          obtain ⟨W3, rfl⟩ : ∃ W3 : World, W3 = wr := ⟨_, rfl⟩
          cases hqu : (q && decide (v.kd = 4)) with
          | false =>
            have HS2 := Lib.hid (show lawAt l wo (m + 1) = lawAt l wo m by rw [HST.out, HSS.out, hqu]; rfl)
            have c3 := HAT.out.2.2.2.1
            have HQU := Lib.hid hqu
            clear hqu
            go_wp2_with fail
            go_loopw [8] (fun vk wr => vk = .int .i64 0 ∧ wr = W3) (fun _ _ => 0)
            case atStart => exact ⟨rfl, rfl⟩
            case round =>
              obtain ⟨rfl, rfl⟩ := hrel
              cases q with
              | false =>
                rcases Nat.eq_zero_or_pos j with h0 | h0
                · subst h0
                  go_wp2_with fail
                  go_roundw
                  case rel => exact ⟨m + 1, _, by omega, rfl, by have := HX0.out; omega, by rw [HS2.out]; exact HOW.out, hkp⟩
                  case measure => simp [intOf]
                · have hd : decide ((0 : Int) < (j : Int)) = true := by rw [decide_eq_true_eq]; omega
                  go_wp2_with fail
                  go_roundw
                  case rel => exact ⟨m + 1, _, by omega, rfl, by have := HX0.out; omega, by rw [HS2.out]; exact HOW.out, hkp⟩
                  case measure => simp [intOf]
              | true =>
                have h4 : (v.kd == 4) = false := by
                  have h := HQU.out
                  rw [Bool.true_and, decide_eq_false_iff_not] at h
                  rw [beq_eq_false_iff_ne]
                  exact h
                rcases Nat.eq_zero_or_pos j with h0 | h0
                · subst h0
                  go_wp2_with fail
                  go_roundw
                  case rel => exact ⟨m + 1, _, by omega, rfl, by have := HX0.out; omega, by rw [HS2.out]; exact HOW.out, hkp⟩
                  case measure => simp [intOf]
                · have hd : decide ((0 : Int) < (j : Int)) = true := by rw [decide_eq_true_eq]; omega
                  go_wp2_with fail
                  go_roundw
                  case rel => exact ⟨m + 1, _, by omega, rfl, by have := HX0.out; omega, by rw [HS2.out]; exact HOW.out, hkp⟩
                  case measure => simp [intOf]
          | true =>
            rw [Bool.and_eq_true, decide_eq_true_eq] at hqu
            obtain ⟨rfl, h4⟩ := hqu
            have HS2 := Lib.hid (show lawAt l wo (m + 1) = lawK l j j (lawAt l wo m) by rw [HST.out, HSS.out, h4]; rfl)
            have h4' : (v.kd == 4) = true := by rw [beq_iff_eq]; exact h4
            clear h4 hq1
            go_wp2_with fail
            go_loopw [8] (fun vk wr => ∃ k : Nat, k ≤ j ∧ vk = .int .i64 k ∧ wr.ownsRow w.heap.size 4 1 (.slice (some ⟨w.heap.size, 0, none⟩) i i) i ((lawK l j k (lawAt l wo m)).map Value.bool) ∧ Kp No w wr) (fun vk _ => j - (intOf vk).toNat)
            case atStart => exact ⟨0, by omega, rfl, HOW.out, hkp⟩
            case round =>
              obtain ⟨k, hk, rfl, how, hkq⟩ := hrel
              have HOK := Lib.hid how
              have hlk := lawK_len l j (lawAt l wo m) k
              rw [lawAt_len, HL.out] at hlk
              clear how
              by_cases hkj : k < j
              · obtain ⟨u, hu⟩ : ∃ u, l[k]? = some u := ⟨_, List.getElem?_eq_getElem (by rw [HL.out]; omega)⟩
                obtain ⟨b', o', hbo, _, hau⟩ := RdW.at_ (HX.out.no hkq) hu
                cases hbo
                have hjt : wr.cell? ⟨w.heap.size, j, none⟩ = some (.bool true) := own_cell HOK.out (by rw [List.getElem?_map, lawK_ge l j _ k j (by omega), HQ.out]; rfl)
                obtain ⟨z, hz⟩ : ∃ z, (lawK l j k (lawAt l wo m))[k]? = some z := ⟨_, List.getElem?_eq_getElem (by omega)⟩
                have hkt : wr.cell? ⟨w.heap.size, k, none⟩ = some (.bool z) := own_cell HOK.out (by rw [List.getElem?_map, hz]; rfl)
                have fk := own_free HOK.out k
                obtain ⟨b2, o2, hb2, _, hav⟩ := RdW.at_ (HX.out.no hkq) HV.out
                cases hb2
                have HLK := Lib.hid (show lawK l j (k + 1) (lawAt l wo m) = if decide (u.nm = v.onm) then (lawK l j k (lawAt l wo m)).set k false else lawK l j k (lawAt l wo m) by rw [lawK]; unfold hits; rw [HV.out, hu])
                obtain ⟨_, _, _, a3, _, _, _, _, a8, a9, _⟩ := hav
                obtain ⟨d0, d1, _⟩ := hau
                have hkjc : (k : Int) < (j : Int) := by omega
                have hkic : (k : Int) < (i : Int) := by omega
                clear hu hz hlk
                by_cases e0 : u.wk = v.ow
                · by_cases e1 : u.num = v.on
                  · have q0 : (u.wk == v.ow) = true := by rw [beq_iff_eq]; exact e0
                    have q1 : (u.num == v.on) = true := by rw [beq_iff_eq]; exact e1
                    have HLK2 := Lib.hid (HLK.out.trans (by rw [if_pos (by unfold Wk.nm Wk.onm; rw [e0, e1]; simp)]))
                    clear e0 e1
                    go_wp2_with fail
                    go_quiet (fail)
                    have ktd : (wr.drewN nq).cell? ⟨w.heap.size, k, none⟩ = some (.bool z) := hkt
                    have fkd : (wr.drewN nq).frozen? ⟨w.heap.size, k, none⟩ = false := fk
                    have HOD := Lib.hid ((Kp.drewN No wr nq).owns HOK.out fun _ _ h => h)
                    have hkd : Kp No w (wr.drewN nq) := hkq.tr (Kp.drewN _ _ _)
                    clear hkt fk hjt a3 a8 a9 d0 d1
                    generalize wr.drewN nq = w8 at ktd fkd HOD hkd ⊢
                    go_wp2_with fail
                    go_roundw
                    case rel =>
                      refine ⟨k + 1, by omega, by go_num, ?_, hkd.trans (kp_setOne _ _ _ _) fun g hg e => by have e : g = w.heap.size := e; omega⟩
                      rw [HLK2.out, List.map_set]
                      exact own_set HOD.out k _
                    case measure => simp [intOf]; omega
                  · have q0 : (u.wk == v.ow) = true := by rw [beq_iff_eq]; exact e0
                    have q1 : (u.num == v.on) = false := by rw [beq_eq_false_iff_ne]; exact e1
                    have HLK2 := Lib.hid (HLK.out.trans (by rw [if_neg (by unfold Wk.nm Wk.onm; simp [e1])]))
                    clear e0 e1
                    go_wp2_with fail
                    go_quiet (fail)
                    go_wp2_with fail
                    go_roundw
                    case rel => exact ⟨k + 1, by omega, by go_num, by rw [HLK2.out]; exact (Kp.drewN No wr _).owns HOK.out fun _ _ h => h, hkq.tr (Kp.drewN _ _ _)⟩
                    case measure => simp [intOf]; omega
                · have q0 : (u.wk == v.ow) = false := by rw [beq_eq_false_iff_ne]; exact e0
                  have HLK2 := Lib.hid (HLK.out.trans (by rw [if_neg (by unfold Wk.nm Wk.onm; simp [e0])]))
                  clear e0
                  go_wp2_with fail
                  go_quiet (fail)
                  go_wp2_with fail
                  go_roundw
                  case rel => exact ⟨k + 1, by omega, by go_num, by rw [HLK2.out]; exact (Kp.drewN No wr _).owns HOK.out fun _ _ h => h, hkq.tr (Kp.drewN _ _ _)⟩
                  case measure => simp [intOf]; omega
              · obtain rfl : k = j := by omega
                go_wp2_with fail
                go_roundw
                case rel => exact ⟨m + 1, _, by omega, rfl, by have := HX0.out; omega, by rw [HS2.out]; exact HOK.out, hkq⟩
                case measure => simp [intOf]
        · obtain rfl : m = i := by omega
          have hx1 : x = -1 := by omega
          subst hx1
          clear hx0
          go_wp2_with fail
          go_ret
          exact ⟨_, rfl, by unfold lawL; rw [HL.out]; exact HOW.out, hkp⟩
end Go.Proofs.Ytjbpdimepckmfaa
