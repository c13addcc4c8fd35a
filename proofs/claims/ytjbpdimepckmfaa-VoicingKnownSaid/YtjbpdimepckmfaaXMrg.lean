/- Chapter 27: Merge: the walk. -/
import Derived.Test.YtjbpdimepckmfaaXChkW
import Derived.Test.YtjbpdimepckmfaaXClnM
import Derived.Test.YtjbpdimepckmfaaXMrgP
import Derived.Test.YtjbpdimepckmfaaXUndM
import Derived.Test.YtjbpdimepckmfaaXSrt
import Derived.Test.YtjbpdimepckmfaaXLibSortM
namespace Go.Proofs.Ytjbpdimepckmfaa
open Go.RowKit Go.Kq Go.Sort

theorem rdE2 (w : World) (x y : Int) : RdI .i64 (w.alloc (.cells #[.int .i64 x, .int .i64 y] 23)) (some ⟨w.heap.size, 0, none⟩) 2 [x, y] := by
  refine ⟨rfl, fun i u hu => ?_⟩
  match i, hu with
  | 0, hu => simp at hu; subst hu; exact ⟨_, _, rfl, by simp, by go_simp⟩
  | 1, hu => simp at hu; subst hu; exact ⟨_, _, rfl, by simp, by go_simp⟩
  | n + 2, hu => simp at hu
theorem mrgF_or (a b : List Wk) : mrgF a b = if orL [chkL a, chkL b] = 0 then mrgE a b else orL [chkL a, chkL b] := by
  unfold mrgF
  simp only [orL]
  by_cases h1 : chkL a = 0
  · by_cases h2 : chkL b = 0 <;> simp [h1, h2]
  · simp [h1]
theorem or_zero {x y : Int} (h : orL [x, y] = 0) : x = 0 ∧ y = 0 := by
  simp only [orL] at h
  by_cases h1 : x = 0
  · refine ⟨h1, ?_⟩
    by_cases h2 : y = 0
    · exact h2
    · simp [h1, h2] at h
  · simp [h1] at h
theorem miss_take {a b : List Wk} {k : Nat} {v : Wk} (hv : b[k]? = some v) : miss a (b.take (k + 1)) = miss a (b.take k) ++ if (findN a v.nm).isNone then [v] else [] := by
  unfold miss
  rw [List.take_add_one, hv, Option.toList_some, List.filter_append]
  by_cases h : (findN a v.nm).isNone <;> simp [h]
theorem miss_le (a b : List Wk) : (miss a b).length ≤ b.length := List.length_filter_le _ _
theorem swoW : SWO (ltOf cmpW) where
  irrefl x := by show decide (cmpW x x < 0) = false; rw [cmpW_lt]; exact ltW_irr x
  trans x y z h1 h2 := by
    have h1 : decide (cmpW x y < 0) = true := h1
    have h2 : decide (cmpW y z < 0) = true := h2
    show decide (cmpW x z < 0) = true
    rw [cmpW_lt] at *
    exact ltW_trans h1 h2
  ntrans x y z h1 h2 := by
    have h1 : decide (cmpW x y < 0) = false := h1
    have h2 : decide (cmpW y z < 0) = false := h2
    show decide (cmpW x z < 0) = false
    rw [cmpW_lt, ltW_no] at *
    omega
theorem cmpLaysW (blk off size : Nat) (w : World) : CmpLays Try.prog 50 #[] Wk.cells 11 cmpW blk off size w := fun _ _ _ _ x y => compare_any x y _
theorem cells_one (x : Wk) : ∀ v ∈ Wk.cells x, v.oneCell' = true := by
  intro v hv
  simp [Wk.cells] at hv
  rcases hv with rfl | rfl | rfl | rfl | rfl | rfl | rfl | rfl | rfl | rfl | rfl <;> rfl
theorem own_nilW {w : World} {base : Nat} : w.ownsRow base 41 11 (.slice none 0 0) ([] : List Wk).length (([] : List Wk).flatMap Wk.cells) := ⟨rfl, .inl ⟨rfl, rfl⟩⟩
theorem own_notMap {κ ν : Type} {ek : κ → Value} {ev : ν → Value} {E : List (κ × ν)} {w : World} {base n B : Nat} {e : TypeId} {size : Nat} {v : Value} {xs : List Value} (h : w.ownsRow base e size v n xs) (hm : MapAt w B ek ev E) : v.ownBlock ≠ some B := by
  intro hg
  obtain ⟨es, clock, hm⟩ := hm
  have hm1 := hm.at_
  rcases h.2 with ⟨rfl, _⟩ | ⟨g1, _, _, rfl, _, hh, _⟩
  · cases hg
  · cases hg
    have hm2 : w.heap[g1]? = some (.map es clock) := hm1
    rw [hh] at hm2
    cases hm2
set_option maxHeartbeats 4000000 in
set_option maxRecDepth 100000 in
theorem Merge_any (A : Option Addr) (n ca : Nat) (a : List Wk) (A' : Option Addr) (n' ca' : Nat) (b : List Wk) (w : World) (hx : RdW w A n a) (hy : RdW w A' n' b) (hf : Fits a) (hf' : Fits b) (hA : A = none → n = 0 ∧ ca = 0) :
    Calls Try.prog 14 #[.slice A n ca, .slice A' n' ca'] w fun e w' => ∃ v, e = .returned (.tuple #[v, .int .i64 (mrgF a b)]) ∧ w'.ownsRow w.heap.size 41 11 v (mrgV a b).length ((mrgV a b).flatMap Wk.cells) ∧ Kp No w w' := by
  have hl := hx.1
  have hl' := hy.1
  obtain ⟨i0, hi0, hz0, hz1, hz2⟩ := info_parts info41
  have HA := Lib.hid hA
  clear hA
  go_enter Try.func14, Try.ntmps14
  go_wp2_with fail
  refine (Check_any A n ca a w hx hf).mono ?_
  rintro e w1 ⟨rfl, hk1⟩
  go_wp2_with fail
  refine (Check_any A' n' ca' b w1 (hy.no hk1) hf').mono ?_
  rintro e w2 ⟨rfl, hk12⟩
  have hk2 := hk1.tr hk12
  go_wp2_with fail
  refine (orE_any _ 2 2 _ _ (rdE2 _ _ _) (by omega)).mono ?_
  rintro e w3 ⟨rfl, rfl⟩
  have HF := Lib.hid (mrgF_or a b)
  have HO := Lib.hid (fun h => or_zero (x := chkL a) (y := chkL b) h)
  have hk3 : Kp No w (w2.alloc (.cells #[.int .i64 (chkL a), .int .i64 (chkL b)] 23)) := hk2.tr (Kp.alloc _ _ _)
  generalize (w2.alloc (.cells #[.int .i64 (chkL a), .int .i64 (chkL b)] 23)) = w3 at hk3 ⊢
  generalize orL [chkL a, chkL b] = e0 at HF HO ⊢
  clear hk1 hk12 hk2 hf hf'
  by_cases he : e0 = 0
  · subst he
    obtain ⟨ra, rb⟩ := HO.out rfl
    have RA := rec_of ra
    have RB := rec_of rb
    have hFE : mrgF a b = mrgE a b := by rw [HF.out, if_pos rfl]
    have HFE := Lib.hid hFE
    have hla := RA.len
    have hlb := RB.len
    have HRA := Lib.hid RA
    have HRB := Lib.hid RB
    have HG := Lib.hid (fun x => by have h := ixL_get a RA.names n (by omega) x; rw [List.take_of_length_le (by omega)] at h; exact h : ∀ x, get1 (ixL a n) x = (findN a x).map fun k : Nat => (k : Int))
    clear ra rb RA RB hFE HF HO
    go_wp2_with fail
    refine (index_any A n ca a w3 (hx.no hk3) (by omega)).mono ?_
    rintro e w4 ⟨B, rfl, hB, hm, hk34⟩
    have hk4 := hk3.tr hk34
    have HM4 := Lib.hid hm
    have hBm := hm.lt
    clear hm hk34
    go_wp2_with fail
    refine (clone_any A n ca a w4 (hx.no hk4) (by omega) HA.out).mono ?_
    rintro e w5 ⟨v5, rfl, how, hk45⟩
    have hk5 := hk4.tr hk45
    have HO5 := Lib.hid (own_mono (base' := w.heap.size) how hk4.size)
    have HM5 := Lib.hid (HM4.out.of_block (hk45.block B hBm id))
    have hBw := hk3.size
    clear how hk45 HM4 hBm
    go_wp2_with fail
    go_loopw [8, 28] (fun vo vi wr => ∃ k : Nat, k ≤ n' ∧ vi = .int .i64 k ∧ (∀ (j : Nat) (v : Wk), j < k → b[j]? = some v → clash1 a v = false) ∧ wr.ownsRow w.heap.size 41 11 vo (n + (miss a (b.take k)).length) ((a ++ miss a (b.take k)).flatMap Wk.cells) ∧ MapAt wr B en ei (ixL a n) ∧ Kp No w wr) (fun _ vi _ => n' - (intOf vi).toNat)
    case atStart => exact ⟨0, by omega, rfl, fun j v h => by omega, by simpa [miss] using HO5.out, HM5.out, hk5⟩
    case round =>
      obtain ⟨k, hk, rfl, hcl, how, hm, hkp⟩ := hrel
      have HCL := Lib.hid hcl
      have HOW := Lib.hid how
      have HM := Lib.hid hm
      have hBr := hm.lt
      obtain ⟨M, hM⟩ : ∃ M, M = (miss a (b.take k)).length := ⟨_, rfl⟩
      have hMl : M ≤ n' := by rw [hM]; have := miss_le a (b.take k); rw [List.length_take] at this; omega
      rw [← hM] at HOW
      have HMM := Lib.hid hM
      obtain ⟨al, cl, rfl, _, _, _⟩ := own_form HOW.out
      clear hcl how hm hM
      by_cases hlt : k < n'
      · obtain ⟨v, hv⟩ : ∃ v, b[k]? = some v := ⟨_, List.getElem?_eq_getElem (by omega)⟩
        obtain ⟨b', o, rfl, hb, hat⟩ := RdW.at_ (hy.no hkp) hv
        have HMT := Lib.hid (miss_take (a := a) hv)
        have HV := Lib.hid hv
        have HAT := Lib.hid hat
        obtain ⟨c0, c1, c2, c3, c4, c5, c6, c7, c8, c9, c10⟩ := hat
        clear hv
        go_wp2_with fail
        have hkA : Kp No wr (wr.alloc (.cells v.cells.toArray 41)) := Kp.alloc _ _ _
        refine (of_any b' (o + k * 11) v _ (HAT.out.no hkA)).mono ?_
        rintro e wX ⟨rfl, hkX⟩
        have hbx : wX.heap[wr.heap.size]? = some (.cells v.cells.toArray 41 (0, 0)) := hkX.heap (heap_alloc_new _ _) id
        have hkrX := hkA.tr hkX
        have hkwX := hkp.tr hkrX
        have HOX := Lib.hid (hkrX.owns HOW.out fun _ _ h => h)
        have HMX := Lib.hid (HM.out.of_block (hkrX.block B hBr id))
        have HBX := Lib.hid hbx
        have hlk : (Instr.lookup 69 (.map (some B)) (nameV v.wk v.num) true).run Try.prog wX = .ok (.tuple #[.int .i64 ((get1 (ixL a n) v.nm).getD 0), .bool (get1 (ixL a n) v.nm).isSome]) wX := HMX.out.run_lookup nameOk Try.underlying69 (zeroInt3 _) v.nm true
        rw [HG.out] at hlk
        clear c0 c1 c2 c3 c4 c5 c6 c7 c8 c9 c10 hkA hkX hbx
        have k0 : wX.cell? ⟨wr.heap.size, 0, none⟩ = some (.int .i64 v.wk) := by rw [cell_of_row _ _ _ _ _ _ HBX.out]; rfl
        have k1 : wX.cell? ⟨wr.heap.size, 1, none⟩ = some (.int .i64 v.num) := by rw [cell_of_row _ _ _ _ _ _ HBX.out]; rfl
        have k2 : wX.cell? ⟨wr.heap.size, 2, none⟩ = some (.int .i64 v.ck) := by rw [cell_of_row _ _ _ _ _ _ HBX.out]; rfl
        have k3 : wX.cell? ⟨wr.heap.size, 3, none⟩ = some (.int .i64 v.kd) := by rw [cell_of_row _ _ _ _ _ _ HBX.out]; rfl
        have k4 : wX.cell? ⟨wr.heap.size, 4, none⟩ = some (.int .i64 v.rk) := by rw [cell_of_row _ _ _ _ _ _ HBX.out]; rfl
        have k5 : wX.cell? ⟨wr.heap.size, 5, none⟩ = some (.int .i64 v.nt) := by rw [cell_of_row _ _ _ _ _ _ HBX.out]; rfl
        have k6 : wX.cell? ⟨wr.heap.size, 6, none⟩ = some (.int .i64 v.fd) := by rw [cell_of_row _ _ _ _ _ _ HBX.out]; rfl
        have k7 : wX.cell? ⟨wr.heap.size, 7, none⟩ = some (.int .i64 v.vl) := by rw [cell_of_row _ _ _ _ _ _ HBX.out]; rfl
        have k8 : wX.cell? ⟨wr.heap.size, 8, none⟩ = some (.int .i64 v.ow) := by rw [cell_of_row _ _ _ _ _ _ HBX.out]; rfl
        have k9 : wX.cell? ⟨wr.heap.size, 9, none⟩ = some (.int .i64 v.on) := by rw [cell_of_row _ _ _ _ _ _ HBX.out]; rfl
        have k10 : wX.cell? ⟨wr.heap.size, 10, none⟩ = some (.string v.tx) := by rw [cell_of_row _ _ _ _ _ _ HBX.out]; rfl
        cases hf : findN a v.nm with
        | none =>
          rw [hf] at hlk
          simp only [Option.map_none, Option.getD_none, Option.isSome_none] at hlk
          have HC1 := Lib.hid (show clash1 a v = false by unfold clash1; rw [hf])
          have HM1 := Lib.hid (show miss a (b.take (k + 1)) = miss a (b.take k) ++ [v] by rw [HMT.out, hf]; rfl)
          clear hf
          go_wp2_with (at_builtin; refine stop_in ?_)
          refine stop_out ?_
          refine wpL_append_any rfl _ _ 22 rfl w.heap.size 41 i0 (Wk.val default) 11 96 Try.underlying22 hi0 hz0 hz1 hz2 rfl (by decide) (.slice al (n + M) cl) (n + M) _ rfl (HOX.out.alloc (.cells v.cells.toArray 41)) (some ⟨wX.heap.size, 0, none⟩) 1 1 v.cells rfl rfl (fun h => (by cases h)) (fun ad had => by cases had; exact new_cells wX v.cells (by rw [wk_len]; unfold maxLen; omega)) (cells_one v) (by unfold maxLen; omega) (by omega) (by have := hkwX.size; simp; omega) ?_
          intro v' w7 hown' hgrow hat
          have hk7 : Kp No w w7 := kp_app hkwX HOX.out (Nat.le_refl _) hgrow
          have hm7 : MapAt w7 B en ei (ixL a n) := (HMX.out.alloc _).kept hgrow fun e => own_notMap HOX.out HMX.out e.symm
          obtain ⟨g', c7, rfl, _, _, _⟩ := own_form hown'
          have HO7 := Lib.hid hown'
          clear hown' hgrow hat hlk k0 k1 k2 k3 k4 k5 k6 k7 k8 k9 k10
          go_wp2_with fail
          go_roundw
          case rel =>
            refine ⟨k + 1, by omega, by go_num, fun j u hj hu => ?_, ?_, hm7, hk7⟩
            · by_cases e : j = k
              · subst e
                rw [HV.out] at hu
                cases hu
                exact HC1.out
              · exact HCL.out j u (by omega) hu
            · rw [HM1.out, List.length_append, ← HMM.out, ← List.append_assoc, List.flatMap_append]
              simpa [Nat.add_assoc] using HO7.out
          case measure => simp [intOf]; omega
        | some j =>
          rw [hf] at hlk
          simp only [Option.map_some, Option.getD_some, Option.isSome_some] at hlk
          obtain ⟨u, hu, _⟩ := findN_at hf
          have hj := (List.getElem?_eq_some_iff.1 hu).1
          obtain ⟨ba, oa, rfl, _, hau⟩ := RdW.at_ (hx.no hkwX) hu
          obtain ⟨c0, c1, c2, c3, c4, c5, c6, c7, c8, c9, c10⟩ := hau
          have HM1 := Lib.hid (show miss a (b.take (k + 1)) = miss a (b.take k) by rw [HMT.out, hf]; simp)
          have HC1 := Lib.hid (show clash1 a v = !eqW u v by unfold clash1; rw [hf]; simp [List.getD_eq_getElem?_getD, hu])
          have HE := fun w' => work_equal w' u v
          simp only [Wk.val] at HE
          have hjn : (j : Int) < (n : Int) := by omega
          clear hf hu hj
          generalize eqW u v = q at HE HC1
          cases q with
          | true =>
            go_wp2_with fail
            go_quiet (fail)
            go_wp2_with fail
            go_roundw
            case rel =>
              have hkd : Kp No wr (wX.drewN nq) := hkrX.tr (Kp.drewN _ _ _)
              refine ⟨k + 1, by omega, by go_num, fun j u hj hu => ?_, ?_, HM.out.of_block (hkd.block B hBr id), hkp.tr hkd⟩
              · by_cases e : j = k
                · subst e
                  rw [HV.out] at hu
                  cases hu
                  exact HC1.out
                · exact HCL.out j u (by omega) hu
              · rw [HM1.out, ← HMM.out]
                exact hkd.owns HOW.out fun _ _ h => h
            case measure => simp [intOf]; omega
          | false =>
            have HCA := Lib.hid (show clash a b = true by unfold clash; exact List.any_eq_true.2 ⟨v, List.mem_of_getElem? HV.out, HC1.out⟩)
            have HZ := Lib.hid (show mrgF a b = 8 by rw [HFE.out]; unfold mrgE; rw [HCA.out]; rfl)
            have HVV := Lib.hid (show mrgV a b = [] by unfold mrgV; rw [HZ.out]; rfl)
            go_wp2_with fail
            go_quiet (fail)
            go_wp2_with fail
            refine bodyPost_ret (v := .tuple #[.slice none 0 0, .int .i64 8]) (by simp [results, Try.results14, go_sem]) rfl ⟨.slice none 0 0, by rw [HZ.out], by rw [HVV.out]; exact own_nilW, hkwX.tr (Kp.drewN _ _ _)⟩
      · obtain rfl : k = n' := by omega
        have hall : clash a b = false := by
          unfold clash
          rw [List.any_eq_false]
          intro v hv
          obtain ⟨j, hj⟩ := List.getElem?_of_mem hv
          have := (List.getElem?_eq_some_iff.1 hj).1
          rw [HCL.out j v (by omega) hj]
          simp
        rw [List.take_of_length_le (by omega)] at HOW HMM
        have HBL := Lib.hid (show (bothW a b).length = n + M by unfold bothW; rw [List.length_append, HMM.out, hl])
        have HALL := Lib.hid hall
        clear hall
        by_cases hfull : n + M ≤ 400
        · have HZ := Lib.hid (show mrgF a b = 0 by rw [HFE.out]; unfold mrgE; rw [HALL.out, HBL.out]; simp; omega)
          have HVV := Lib.hid (show mrgV a b = mrgL a b by unfold mrgV; rw [HZ.out]; rfl)
          have hcmp : decide ((400 : Int) < (n : Int) + (M : Int)) = false := by rw [decide_eq_false_iff_not]; omega
          have hsz : (a ++ miss a b).length = n + M := by have := HBL.out; unfold bothW at this; exact this
          have HSZ := Lib.hid hsz
          clear hsz
          have HQ := Lib.hid (fun (l' : List Wk) (h1 : l'.Perm (a ++ miss a b)) (h2 : l'.Pairwise fun x y => ltW y x = false) => (mrg_uniq HRA.out.names HRB.out.names h1 h2 : l' = mrgL a b))
          by_cases h0 : n + M = 0
          · have hs := AnyF.slices_SortFunc_none { sortW with } al cl (.func (.func 50) #[] #[]) wr
            change Calls Try.prog 49 _ _ _ at hs
            have h00 := HSZ.out
            rw [h0] at h00
            have HNIL := Lib.hid (List.length_eq_zero_iff.1 h00)
            obtain rfl : n = 0 := by omega
            obtain rfl : M = 0 := by omega
            clear h0 h00
            go_wp2_with fail
            refine hs.mono ?_
            rintro e w' ⟨rfl, rfl⟩
            go_wp2_with fail
            refine bodyPost_ret (v := .tuple #[.slice al 0 cl, .int .i64 0]) (by simp [results, Try.results14, go_sem]) rfl ⟨.slice al 0 cl, by rw [HZ.out], ?_, hkp⟩
            rw [HVV.out, ← HQ.out _ (List.Perm.refl _) (by rw [HNIL.out]; exact List.Pairwise.nil), HSZ.out]
            exact HOW.out
          · obtain ⟨_, _, hv', _, _, hAA⟩ := own_form HOW.out
            cases hv'
            obtain ⟨g, rfl⟩ := hAA (by omega)
            have hgl := own_ge HOW.out (g := g) rfl
            have hs := AnyQ.slices_SortFunc sortW 11 Try.isAgg41 Try.sizeOf41 Wk.cells wk_len cells_one cmpW swoW 50 #[] g 0 cl (a ++ miss a b).toArray wr (enters_of Try.func50 (by kernel_rfl) rfl) (cmpLaysW g 0 _ wr) (own_holdsK wk_len HOW.out) hgl.2 (by rw [List.size_toArray, HSZ.out]; omega)
            change Calls Try.prog 49 _ _ _ at hs
            simp only [List.size_toArray, HSZ.out] at hs
            clear h0 hAA
            go_wp2_with fail
            refine hs.mono ?_
            rintro e w' ⟨rfl, d', m, os, hpi, hsi, rfl⟩
            have hP2 := perm_of_permIn (l := a ++ miss a b) (by rw [List.size_toArray, HSZ.out]; exact hpi)
            have hsz : d'.size = n + M := by have := hP2.length_eq; rw [HSZ.out] at this; simpa using this
            have hpw := pairwise_of_sortedIn hsz hsi
            obtain ⟨l'⟩ := d'
            have hl2 : l'.length = n + M := by simpa using hsz
            have ho2 := own_sortedK (ts := l') (m := m) (os := os) wk_len HOW.out (by rw [hl2, HSZ.out])
            have hk2 := kp_sortedK (w := wr) (g := g) (m := m) (os := os) wk_len l'
            have HO2 := Lib.hid ho2
            have HK2 := Lib.hid (hkp.trans hk2 (fun k hk h => absurd hk (by unfold Kq.One at h; omega)) : Kp No w _)
            have HE2 := Lib.hid (HQ.out l' hP2 (hpw.imp fun {x y} h => by have h : decide (cmpW y x < 0) = false := h; rwa [cmpW_lt] at h))
            have HL2 := Lib.hid hl2
            clear ho2 hk2 hpi hsi hP2 hpw hs hsz hl2
            generalize sortWorldK Wk.cells 11 wr g 0 m l'.toArray os = w3' at *
            go_wp2_with fail
            refine bodyPost_ret (v := .tuple #[.slice (some ⟨g, 0, none⟩) (n + M) cl, .int .i64 0]) (by simp [results, Try.results14, go_sem]) rfl ⟨.slice (some ⟨g, 0, none⟩) (n + M) cl, by rw [HZ.out], ?_, HK2.out⟩
            rw [HVV.out, ← HE2.out, HL2.out]
            exact HO2.out
        · have HZ := Lib.hid (show mrgF a b = 5 by rw [HFE.out]; unfold mrgE; rw [HALL.out, HBL.out]; simp; omega)
          have HVV := Lib.hid (show mrgV a b = [] by unfold mrgV; rw [HZ.out]; rfl)
          have hcmp : decide ((400 : Int) < (n : Int) + (M : Int)) = true := by rw [decide_eq_true_eq]; omega
          go_wp2_with fail
          · refine bodyPost_ret (v := .tuple #[.slice none 0 0, .int .i64 5]) (by simp [results, Try.results14, go_sem]) rfl ⟨.slice none 0 0, by rw [HZ.out], by rw [HVV.out]; exact own_nilW, hkp⟩
  · have HFE : Hid (mrgF a b = e0) := Lib.hid (by rw [HF.out, if_neg he])
    have HV := Lib.hid (show mrgV a b = [] by unfold mrgV; rw [HFE.out, if_neg he])
    have hne : (e0 == 0) = false := by rw [beq_eq_false_iff_ne]; exact he
    clear HF HO he
    go_wp2_with fail
    refine bodyPost_ret (v := .tuple #[.slice none 0 0, .int .i64 e0]) (by simp [results, Try.results14, go_sem]) rfl ⟨.slice none 0 0, by rw [HFE.out], by rw [HV.out]; exact own_nilW, hk3⟩
end Go.Proofs.Ytjbpdimepckmfaa
