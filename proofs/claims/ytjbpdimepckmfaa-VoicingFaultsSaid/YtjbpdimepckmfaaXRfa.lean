/- Chapter 27: the reference's Faults: the walk. -/
import Derived.Deep.Cut
import Derived.Test.YtjbpdimepckmfaaXSeeM
import Derived.Test.YtjbpdimepckmfaaXLibStopM
namespace Go.Proofs.Ytjbpdimepckmfaa
open Go.RowKit Go.Kq

set_option maxHeartbeats 8000000 in
set_option maxRecDepth 100000 in
theorem rFaults_any (A : Option Addr) (n ca : Nat) (l : List Wk) (w : World) (hx : RdW w A n l) (hf : Fits l) (hca : n ≤ ca) :
    Calls Try.prog 35 #[.slice A n ca] w fun e w' => ∃ v, e = .returned (.tuple #[v, .int .i64 (chkL l)]) ∧ w'.ownsRow w.heap.size 3 1 v (fauV l).length ((fauV l).map (Value.int .i64)) ∧ Kp No w w' := by
  obtain ⟨i0, hi0, hz0, hz1, hz2⟩ := info_parts info3
  have hc := rCheck_any A n ca l w hx hf hca
  have HX := Lib.hid hx
  clear hx hf
  by_cases h1 : chkL l = 0
  rotate_left
  · have q1 : (chkL l != 0) = true := by rw [bne_iff_ne]; exact h1
    have HV := Lib.hid (show fauV l = [] from if_neg h1)
    generalize chkL l = x at hc q1 ⊢
    clear h1
    go_enter Try.func35, Try.ntmps35
    go_wp2_with fail
    with_reducible refine hc.mono ?_
    rintro e w1 ⟨rfl, hk1⟩
    go_wp2_with fail
    refine bodyPost_ret (v := .tuple #[.slice none 0 0, .int .i64 x]) (by simp [results, Try.results35, go_sem]) rfl ⟨.slice none 0 0, rfl, by rw [HV.out]; exact ⟨rfl, .inl ⟨rfl, rfl⟩⟩, hk1⟩
  have HR := Lib.hid (rec_of h1)
  have HL := Lib.hid HX.out.1
  have hn : n ≤ 400 := by rw [← HL.out]; exact HR.out.len
  have HFV := Lib.hid (show fauV l = (fauS (cntU l n)).2 by unfold fauV cntL; rw [if_pos h1, HL.out])
  rw [h1] at hc ⊢
  clear h1
  go_enter Try.func35, Try.ntmps35
  go_wp2_with fail
  with_reducible refine hc.mono ?_
  rintro e w1 ⟨rfl, hk1⟩
  go_wp2_with fail
  with_reducible refine (rundone_any A n ca l w1 (HX.out.no hk1) (by omega) hca HR.out.names).mono ?_
  rintro e w2 ⟨G, rfl, hg, hk12⟩
  have hk2 := hk1.tr hk12
  have HG := Lib.hid hg
  have HK2 := Lib.hid hk2
  have HX2 := Lib.hid (HX.out.no hk2)
  clear hc hg hk1 hk12 hk2
  go_wp2_with fail
  go_loopw [6, 7, 8] (fun vp vo vi wr => ∃ (i : Nat) (s : List Pv), i ≤ n ∧ vi = .int .i64 i ∧ wr.ownsRow w2.heap.size 64 12 vp s.length (s.flatMap Pv.cells) ∧ IsSt (fauS (cntU l i)).1 s ∧ wr.ownsRow w2.heap.size 3 1 vo (fauS (cntU l i)).2.length ((fauS (cntU l i)).2.map (Value.int .i64)) ∧ Kp No w2 wr) (fun _ _ vi _ => n - (intOf vi).toNat)
  case atStart => exact ⟨0, [], by omega, rfl, ⟨rfl, .inl ⟨rfl, rfl⟩⟩, isSt_nil, ⟨rfl, .inl ⟨rfl, rfl⟩⟩, Kp.refl _ _⟩
  case round =>
    obtain ⟨i, s, hi, rfl, how, hst, hoo, hkp⟩ := hrel
    have HST := Lib.hid hst
    have hfew := cntU_few (l := l) i
    have hsl : s.length ≤ 400 := by
      have h1 := isSt_len hst
      omega
    obtain ⟨sn, hsn⟩ : ∃ sn, sn = s.length := ⟨_, rfl⟩
    rw [← hsn] at how hsl
    have HSN := Lib.hid hsn
    obtain ⟨M, hM⟩ : ∃ M, M = (fauS (cntU l i)).2.length := ⟨_, rfl⟩
    have hM4 : M ≤ 400 := by omega
    rw [← hM] at hoo
    have HM := Lib.hid hM
    obtain ⟨al, cl, rfl, _, _, _⟩ := own_form how
    obtain ⟨ao, co, rfl, _, _, _⟩ := own_form hoo
    have HOW := Lib.hid how
    have HOO := Lib.hid hoo
    clear how hst hsn hM hoo hfew
    by_cases hlt : i < n
    · obtain ⟨v, hv⟩ : ∃ v, l[i]? = some v := ⟨_, List.getElem?_eq_getElem (by rw [HL.out]; omega)⟩
      obtain ⟨b, o, rfl, _, hat⟩ := RdW.at_ (HX2.out.no hkp) hv
      obtain ⟨q, hq⟩ : ∃ q, (undL l)[i]? = some q := ⟨_, List.getElem?_eq_getElem (by rw [undL_len, HL.out]; omega)⟩
      have hgo : wr.cell? ⟨G, i, none⟩ = some (.bool q) := hkp.cell (own_cell HG.out (by rw [List.getElem?_map, hq]; rfl)) id
      have hgl : G < wr.heap.size := World.block_lt_of_cell? _ _ hgo
      have HIC := Lib.hid (show isC l i v = (!q && v.kd != 4) by unfold isC; rw [List.getD_eq_getElem?_getD, hq]; rfl)
      have HV := Lib.hid hv
      have hin : (i : Int) < (n : Int) := by omega
      have hka : Kp No wr (wr.alloc (.cells v.cells.toArray 41)) := Kp.alloc _ _ _
      have HKA := Lib.hid (hkp.tr hka)
      have hskip : (isC l i v = false ∨ v.kd = 3) → Hid (fauS (cntU l (i + 1)) = fauS (cntU l i)) := fun h => Lib.hid (fau_skip HV.out h)
      have HSK := Lib.hid hskip
      obtain ⟨c0, c1, c2, c3, c4, c5, c6, c7, c8, c9, c10⟩ := hat
      clear hv hq hskip hka
      cases q with
      | true =>
        have HW := HSK.out (.inl (by rw [HIC.out]; rfl))
        go_wp2_with fail
        go_roundw
        case rel => exact ⟨i + 1, s, by omega, by go_num, by rw [← HSN.out]; exact HOW.out.alloc _, by rw [HW.out]; exact HST.out, by rw [HW.out, ← HM.out]; exact HOO.out.alloc _, HKA.out⟩
        case measure => simp [intOf]; omega
      | false =>
      by_cases h12 : v.kd = 1 ∨ v.kd = 2
      rotate_left
      · have p1 : (v.kd != 1) = true := by rw [bne_iff_ne]; exact fun h => h12 (.inl h)
        have p2 : (v.kd != 2) = true := by rw [bne_iff_ne]; exact fun h => h12 (.inr h)
        have HW := HSK.out (by
          by_cases h4 : v.kd = 4
          · exact .inl (by rw [HIC.out, h4]; rfl)
          · rcases okW_cases (HR.out.ok v (List.mem_of_getElem? HV.out)) h4 with ⟨h, _⟩ | h
            · exact absurd h h12
            · exact .inr h)
        clear h12
        go_wp2_with fail
        go_roundw
        case rel => exact ⟨i + 1, s, by omega, by go_num, by rw [← HSN.out]; exact HOW.out.alloc _, by rw [HW.out]; exact HST.out, by rw [HW.out, ← HM.out]; exact HOO.out.alloc _, HKA.out⟩
        case measure => simp [intOf]; omega
      have h4 : v.kd ≠ 4 := by omega
      have HDO := Lib.hid (fau_do HV.out (by rw [HIC.out]; simp [h4]) (by omega))
      obtain ⟨f, hfd, hf8⟩ : ∃ f : Nat, v.fd = (f : Int) ∧ f < 8 := by
        rcases okW_cases (HR.out.ok v (List.mem_of_getElem? HV.out)) h4 with ⟨_, h⟩ | h
        · exact h
        · omega
      have HFD := Lib.hid hfd
      have H12 := Lib.hid h12
      have HCEL := Lib.hid (show (.cells #[.int .i64 v.wk, .int .i64 v.num, .int .i64 v.ck, .int .i64 v.kd, .int .i64 v.rk, .int .i64 v.nt, .int .i64 v.fd, .int .i64 v.vl, .int .i64 v.ow, .int .i64 v.on, .string v.tx] 41 : Obj) = .cells v.cells.toArray 41 from rfl)
      have hba : BoxW (wr.alloc (.cells v.cells.toArray 41)) wr.heap.size v := heap_alloc_new _ _
      have HOWA := Lib.hid (HOW.out.alloc (.cells v.cells.toArray 41))
      have HOOA := Lib.hid (HOO.out.alloc (.cells v.cells.toArray 41))
      have hpq : (v.kd = 1 ∧ (v.kd != 1) = false) ∨ (v.kd = 2 ∧ (v.kd != 1) = true ∧ (v.kd != 2) = false) := by
        rcases h12 with h | h
        · exact .inl ⟨h, by rw [h]; rfl⟩
        · exact .inr ⟨h, by rw [h]; rfl, by rw [h]; rfl⟩
      have HPQ := Lib.hid hpq
      clear h12 h4 hfd hpq
      have main : ∀ Q : Act → World → Prop, True := fun _ => trivial
      clear main
      rcases HPQ.out with ⟨hkd, p1⟩ | ⟨hkd, p1, p2⟩
      · have HKD := Lib.hid hkd
        clear hkd
        go_wp2_with fail
        rw [HCEL.out]
        change Calls _ _ #[.slice al sn cl, ep v.pp] _ _
        have HKP0 := HKA
        have hsz0 : w2.heap.size ≤ (wr.alloc (.cells v.cells.toArray 41)).heap.size := HKA.out.size
        have hga : G < (wr.alloc (.cells v.cells.toArray 41)).heap.size := by rw [World.size_alloc]; omega
        generalize wr.alloc (.cells v.cells.toArray 41) = wa at HKP0 HOWA HOOA hba hsz0 ⊢
        obtain ⟨Bx, hBx⟩ : ∃ Bx, Bx = wr.heap.size := ⟨_, rfl⟩
        rw [← hBx] at hba ⊢
        have hBw : w2.heap.size ≤ Bx := by rw [hBx]; exact hkp.size
        clear hBx HCEL c0 c1 c2 c3 c4 c5 c6 c7 c8 c9 c10 hgo hgl hga HOW HOO HKA
        with_reducible refine (rplace_any (.slice al sn cl) sn w2.heap.size s v.pp wa HOWA.out hsz0 (by omega)).mono ?_
        rintro e w3 ⟨v3, L, e0, R, rfl, ho3, hpr, hk3⟩
        have HPV := Lib.hid (plc_fPv HST.out hpr)
        have HSTEP := Lib.hid (plc_step HST.out hpr rfl)
        have hkp3 := HKP0.out.tr hk3
        have hb3 : BoxW w3 Bx v := hba.kp hk3 id
        have HOO3 := Lib.hid (hk3.owns HOOA.out fun _ _ h => h)
        obtain ⟨a3, c3', rfl, _, _, ha3⟩ := own_form ho3
        obtain ⟨g, rfl⟩ := ha3 (by rw [List.length_append, List.length_cons]; omega)
        have HO3 := Lib.hid ho3
        have hgw := (own_ge ho3 (g := g) rfl)
        have hBg : Bx ≠ g := fun e => own_other ho3 hb3 (by decide) (by rw [e]; rfl)
        have hgB : g ≠ Bx := fun e => hBg e.symm
        have hap : ∀ q, (Value.slice ao M co).ownBlock = some q → q ≠ g := fun q hq e => own_apart HOO3.out ho3 (by decide) hq (by rw [e]; rfl)
        have HAP := Lib.hid hap
        obtain ⟨d0, d1, d2, d3, d4, d5, d6, d7, _⟩ := hb3.at_
        simp only [Nat.zero_add] at d1 d2 d3 d4 d5 d6 d7
        rw [HFD.out] at d6
        obtain ⟨m, hm⟩ : ∃ m, m = (L ++ e0 :: R).length := ⟨_, rfl⟩
        have hLm : L.length < m := by rw [hm, List.length_append, List.length_cons]; omega
        have HMM := Lib.hid (show ∀ e1 : Pv, (L ++ e1 :: R).length = m from fun e1 => by rw [hm]; simp)
        rw [← hm] at HO3 ⊢
        obtain ⟨k, hk⟩ : ∃ k, k = L.length := ⟨_, rfl⟩
        rw [← hk] at hLm ⊢
        have HK := Lib.hid hk
        have hkm : (k : Int) < (m : Int) := by omega
        have hrow := HO3.out
        have hek : (L ++ e0 :: R)[k]? = some e0 := by rw [hk]; simp
        have cf : w3.cell? ⟨g, k * 12 + 2 + f, none⟩ = some (.int .i64 (e0.get f)) := by rw [Nat.add_assoc]; exact row_at pv_len hrow (by decide) hek (2 + f) _ (Pv.cells_get e0 hf8)
        have ff : w3.frozen? ⟨g, k * 12 + 2 + f, none⟩ = false := own_free hrow _
        have hf8i : (f : Int) < 8 := by omega
        have HSE := Lib.hid (show stepP e0 v = e0.set f (v.vl) by unfold stepP; rw [if_pos HKD.out, HFD.out]; rfl)
        have HBD := Lib.hid (show badF (fauS (cntU l i)).1 v = (decide (v.vl < e0.get f) && decide ((f : Int) < 4)) by unfold badF; rw [HPV.out, HSE.out, HFD.out, Int.toNat_natCast, get_set e0 hf8])
        have q1 : (v.kd == 2) = false := by rw [HKD.out]; rfl
        clear hba ho3 hpr hm hk hrow hek ha3 hk3 hap HKP0 HOOA HOWA p1
        go_wp2_with fail
        go_quiet (fail)
        have hkd := Kp.drewN No w3 nq
        have hkp4 := hkp3.tr hkd
        have HO4 := Lib.hid (hkd.owns HO3.out fun _ _ h => h)
        have HOO4 := Lib.hid (hkd.owns HOO3.out fun _ _ h => h)
        have hb4 : BoxW (w3.drewN nq) Bx v := hb3.kp hkd id
        have cf4 := hkd.cell cf id
        have ff4 : (w3.drewN nq).frozen? ⟨g, k * 12 + 2 + f, none⟩ = false := own_free HO4.out _
        clear d0 d1 d2 d3 d4 d5 d6 d7 cf ff hb3 HO3 HOO3 hkp3 hkd
        generalize w3.drewN nq = w4 at hkp4 HO4 HOO4 hb4 cf4 ff4 ⊢
        obtain ⟨d0, d1, d2, d3, d4, d5, d6, d7, _⟩ := hb4.at_
        simp only [Nat.zero_add] at d1 d2 d3 d4 d5 d6 d7
        rw [HFD.out] at d6
        go_wp2_with fail
        go_still_tail 8, (by kernel_rfl)
        go_upto_region 19 with (fail)
        have hkg : Kp (Kq.One g) w4 ((w4.setCell ⟨g, k * 12 + 2 + f, none⟩ (.int .i64 (v.vl))).drew) := (kp_setOne _ _ _ _).tr (Kp.drew _ _)
        have hkp5 : Kp No w2 ((w4.setCell ⟨g, k * 12 + 2 + f, none⟩ (.int .i64 (v.vl))).drew) := hkp4.trans hkg fun j hj e => by have e : j = g := e; omega
        have HO5 := Lib.hid (show ((w4.setCell ⟨g, k * 12 + 2 + f, none⟩ (.int .i64 (v.vl))).drew).ownsRow w2.heap.size 64 12 (.slice (some ⟨g, 0, none⟩) m c3') m ((L ++ stepP e0 v :: R).flatMap Pv.cells) from by
          have h := own_field HO4.out (j := 2 + f) (by omega) (.int .i64 (v.vl)) (e0.set f (v.vl)) (Pv.cells_set e0 hf8 _)
          rw [← HK.out, ← Nat.add_assoc] at h
          rw [HSE.out]
          exact (Kp.drew No _).owns h fun _ _ h => h)
        have HOO5 := Lib.hid (hkg.owns HOO4.out fun q hq e => HAP.out q hq e)
        have hb5 : BoxW ((w4.setCell ⟨g, k * 12 + 2 + f, none⟩ (.int .i64 (v.vl))).drew) Bx v := hb4.kp hkg hBg
        clear d0 d1 d2 d3 d4 d5 d6 d7 cf4 ff4 hb4 HO4 HOO4 hkp4 hkg
        generalize (w4.setCell ⟨g, k * 12 + 2 + f, none⟩ (.int .i64 (v.vl))).drew = w5 at hkp5 HO5 HOO5 hb5 ⊢
        obtain ⟨d0, d1, d2, d3, d4, d5, d6, d7, _⟩ := hb5.at_
        simp only [Nat.zero_add] at d1 d2 d3 d4 d5 d6 d7
        rw [HFD.out] at d6
        by_cases hbad : v.vl < e0.get f ∧ (f : Int) < 4
        · obtain ⟨hb1, hb2⟩ := hbad
          have q3 : decide (v.vl < e0.get f) = true := decide_eq_true hb1
          have q4 : decide ((f : Int) < 4) = true := decide_eq_true hb2
          have q5 : f < 4 := by omega
          have HS := Lib.hid (show fauS (cntU l (i + 1)) = ((fauS (cntU l i)).1 ++ [v], (fauS (cntU l i)).2 ++ [(i : Int)]) by rw [HDO.out, HBD.out, q3, q4]; rfl)
          clear hb1
          go_wp2_with (at_builtin; refine stop_in ?_)
          refine stop_out ?_
          refine wpL_append_any rfl _ _ 52 rfl w2.heap.size 3 i0 (.int .i64 0) 1 8 Try.underlying52 hi0 hz0 hz1 hz2 rfl (by decide) (.slice ao M co) M _ rfl (HOO5.out.alloc (.cells #[.int .i64 i] 3)) (some ⟨w5.heap.size, 0, none⟩) 1 1 [.int .i64 i] rfl rfl (fun h => (by cases h)) (fun ad had => by cases had; exact cell_one_new w5 _ _) (ints_oneCell .i64 [(i : Int)]) (by unfold maxLen; omega) (by omega) (by have := hkp5.size; simp; omega) ?_
          intro v' w7 hown' hgrow hat
          have hk7 : Kp No w2 w7 := kp_app hkp5 HOO5.out (Nat.le_refl _) hgrow
          have HO7 := Lib.hid (own_app HOO5.out HO5.out (by decide) hgrow)
          obtain ⟨a7, c7, rfl, _, _, _⟩ := own_form hown'
          have HOO7 := Lib.hid hown'
          clear hown' hgrow hat
          go_wp2_with fail
          go_roundw
          case rel => exact ⟨i + 1, L ++ stepP e0 v :: R, by omega, by go_num, by rw [HMM.out]; exact HO7.out, by rw [HS.out]; exact HSTEP.out, by rw [HS.out, List.length_append, ← HM.out, List.map_append]; exact HOO7.out, hk7⟩
          case measure => simp [intOf]; omega
        · have HS := Lib.hid (show fauS (cntU l (i + 1)) = ((fauS (cntU l i)).1 ++ [v], (fauS (cntU l i)).2) by
            rw [HDO.out, HBD.out]
            have : (decide (v.vl < e0.get f) && decide ((f : Int) < 4)) = false := by
              rw [← Bool.not_eq_true]
              simpa using hbad
            rw [this]
            simp)
          by_cases hb1 : v.vl < e0.get f
          · have q3 : decide (v.vl < e0.get f) = true := decide_eq_true hb1
            have q4 : decide ((f : Int) < 4) = false := decide_eq_false fun h => hbad ⟨hb1, h⟩
            have q5 : decide (f < 4) = false := decide_eq_false fun h => hbad ⟨hb1, by omega⟩
            clear hb1 hbad
            go_wp2_with fail
            go_roundw
            case rel => exact ⟨i + 1, L ++ stepP e0 v :: R, by omega, by go_num, by rw [HMM.out]; exact HO5.out, by rw [HS.out]; exact HSTEP.out, by rw [HS.out, ← HM.out]; exact HOO5.out, hkp5⟩
            case measure => simp [intOf]; omega
          · have q3 : decide (v.vl < e0.get f) = false := decide_eq_false hb1
            clear hb1 hbad
            go_wp2_with fail
            go_roundw
            case rel => exact ⟨i + 1, L ++ stepP e0 v :: R, by omega, by go_num, by rw [HMM.out]; exact HO5.out, by rw [HS.out]; exact HSTEP.out, by rw [HS.out, ← HM.out]; exact HOO5.out, hkp5⟩
            case measure => simp [intOf]; omega
      · have HKD := Lib.hid hkd
        clear hkd
        go_wp2_with fail
        rw [HCEL.out]
        change Calls _ _ #[.slice al sn cl, ep v.pp] _ _
        have HKP0 := HKA
        have hsz0 : w2.heap.size ≤ (wr.alloc (.cells v.cells.toArray 41)).heap.size := HKA.out.size
        have hga : G < (wr.alloc (.cells v.cells.toArray 41)).heap.size := by rw [World.size_alloc]; omega
        generalize wr.alloc (.cells v.cells.toArray 41) = wa at HKP0 HOWA HOOA hba hsz0 ⊢
        obtain ⟨Bx, hBx⟩ : ∃ Bx, Bx = wr.heap.size := ⟨_, rfl⟩
        rw [← hBx] at hba ⊢
        have hBw : w2.heap.size ≤ Bx := by rw [hBx]; exact hkp.size
        clear hBx HCEL c0 c1 c2 c3 c4 c5 c6 c7 c8 c9 c10 hgo hgl hga HOW HOO HKA
        with_reducible refine (rplace_any (.slice al sn cl) sn w2.heap.size s v.pp wa HOWA.out hsz0 (by omega)).mono ?_
        rintro e w3 ⟨v3, L, e0, R, rfl, ho3, hpr, hk3⟩
        have HPV := Lib.hid (plc_fPv HST.out hpr)
        have HSTEP := Lib.hid (plc_step HST.out hpr rfl)
        have hkp3 := HKP0.out.tr hk3
        have hb3 : BoxW w3 Bx v := hba.kp hk3 id
        have HOO3 := Lib.hid (hk3.owns HOOA.out fun _ _ h => h)
        obtain ⟨a3, c3', rfl, _, _, ha3⟩ := own_form ho3
        obtain ⟨g, rfl⟩ := ha3 (by rw [List.length_append, List.length_cons]; omega)
        have HO3 := Lib.hid ho3
        have hgw := (own_ge ho3 (g := g) rfl)
        have hBg : Bx ≠ g := fun e => own_other ho3 hb3 (by decide) (by rw [e]; rfl)
        have hgB : g ≠ Bx := fun e => hBg e.symm
        have hap : ∀ q, (Value.slice ao M co).ownBlock = some q → q ≠ g := fun q hq e => own_apart HOO3.out ho3 (by decide) hq (by rw [e]; rfl)
        have HAP := Lib.hid hap
        obtain ⟨d0, d1, d2, d3, d4, d5, d6, d7, _⟩ := hb3.at_
        simp only [Nat.zero_add] at d1 d2 d3 d4 d5 d6 d7
        rw [HFD.out] at d6
        obtain ⟨m, hm⟩ : ∃ m, m = (L ++ e0 :: R).length := ⟨_, rfl⟩
        have hLm : L.length < m := by rw [hm, List.length_append, List.length_cons]; omega
        have HMM := Lib.hid (show ∀ e1 : Pv, (L ++ e1 :: R).length = m from fun e1 => by rw [hm]; simp)
        rw [← hm] at HO3 ⊢
        obtain ⟨k, hk⟩ : ∃ k, k = L.length := ⟨_, rfl⟩
        rw [← hk] at hLm ⊢
        have HK := Lib.hid hk
        have hkm : (k : Int) < (m : Int) := by omega
        have hrow := HO3.out
        have hek : (L ++ e0 :: R)[k]? = some e0 := by rw [hk]; simp
        have cf : w3.cell? ⟨g, k * 12 + 2 + f, none⟩ = some (.int .i64 (e0.get f)) := by rw [Nat.add_assoc]; exact row_at pv_len hrow (by decide) hek (2 + f) _ (Pv.cells_get e0 hf8)
        have ff : w3.frozen? ⟨g, k * 12 + 2 + f, none⟩ = false := own_free hrow _
        have hf8i : (f : Int) < 8 := by omega
        have HSE := Lib.hid (show stepP e0 v = e0.set f (wrap64 (e0.get f + v.vl)) by unfold stepP; rw [if_neg (by rw [HKD.out]; decide), if_pos HKD.out, HFD.out]; rfl)
        have HBD := Lib.hid (show badF (fauS (cntU l i)).1 v = (decide (wrap64 (e0.get f + v.vl) < e0.get f) && decide ((f : Int) < 4)) by unfold badF; rw [HPV.out, HSE.out, HFD.out, Int.toNat_natCast, get_set e0 hf8])
        have q1 : (v.kd == 2) = true := by rw [HKD.out]; rfl
        clear hba ho3 hpr hm hk hrow hek ha3 hk3 hap HKP0 HOOA HOWA p1 p2
        go_wp2_with fail
        go_quiet (fail)
        have hkd := Kp.drewN No w3 nq
        have hkp4 := hkp3.tr hkd
        have HO4 := Lib.hid (hkd.owns HO3.out fun _ _ h => h)
        have HOO4 := Lib.hid (hkd.owns HOO3.out fun _ _ h => h)
        have hb4 : BoxW (w3.drewN nq) Bx v := hb3.kp hkd id
        have cf4 := hkd.cell cf id
        have ff4 : (w3.drewN nq).frozen? ⟨g, k * 12 + 2 + f, none⟩ = false := own_free HO4.out _
        clear d0 d1 d2 d3 d4 d5 d6 d7 cf ff hb3 HO3 HOO3 hkp3 hkd
        generalize w3.drewN nq = w4 at hkp4 HO4 HOO4 hb4 cf4 ff4 ⊢
        obtain ⟨d0, d1, d2, d3, d4, d5, d6, d7, _⟩ := hb4.at_
        simp only [Nat.zero_add] at d1 d2 d3 d4 d5 d6 d7
        rw [HFD.out] at d6
        go_wp2_with fail
        go_still_tail 8, (by kernel_rfl)
        go_upto_region 19 with (fail)
        have hkg : Kp (Kq.One g) w4 ((w4.setCell ⟨g, k * 12 + 2 + f, none⟩ (.int .i64 (wrap64 (e0.get f + v.vl)))).drew) := (kp_setOne _ _ _ _).tr (Kp.drew _ _)
        have hkp5 : Kp No w2 ((w4.setCell ⟨g, k * 12 + 2 + f, none⟩ (.int .i64 (wrap64 (e0.get f + v.vl)))).drew) := hkp4.trans hkg fun j hj e => by have e : j = g := e; omega
        have HO5 := Lib.hid (show ((w4.setCell ⟨g, k * 12 + 2 + f, none⟩ (.int .i64 (wrap64 (e0.get f + v.vl)))).drew).ownsRow w2.heap.size 64 12 (.slice (some ⟨g, 0, none⟩) m c3') m ((L ++ stepP e0 v :: R).flatMap Pv.cells) from by
          have h := own_field HO4.out (j := 2 + f) (by omega) (.int .i64 (wrap64 (e0.get f + v.vl))) (e0.set f (wrap64 (e0.get f + v.vl))) (Pv.cells_set e0 hf8 _)
          rw [← HK.out, ← Nat.add_assoc] at h
          rw [HSE.out]
          exact (Kp.drew No _).owns h fun _ _ h => h)
        have HOO5 := Lib.hid (hkg.owns HOO4.out fun q hq e => HAP.out q hq e)
        have hb5 : BoxW ((w4.setCell ⟨g, k * 12 + 2 + f, none⟩ (.int .i64 (wrap64 (e0.get f + v.vl)))).drew) Bx v := hb4.kp hkg hBg
        clear d0 d1 d2 d3 d4 d5 d6 d7 cf4 ff4 hb4 HO4 HOO4 hkp4 hkg
        generalize (w4.setCell ⟨g, k * 12 + 2 + f, none⟩ (.int .i64 (wrap64 (e0.get f + v.vl)))).drew = w5 at hkp5 HO5 HOO5 hb5 ⊢
        obtain ⟨d0, d1, d2, d3, d4, d5, d6, d7, _⟩ := hb5.at_
        simp only [Nat.zero_add] at d1 d2 d3 d4 d5 d6 d7
        rw [HFD.out] at d6
        by_cases hbad : wrap64 (e0.get f + v.vl) < e0.get f ∧ (f : Int) < 4
        · obtain ⟨hb1, hb2⟩ := hbad
          have q3 : decide (wrap64 (e0.get f + v.vl) < e0.get f) = true := decide_eq_true hb1
          have q4 : decide ((f : Int) < 4) = true := decide_eq_true hb2
          have q5 : f < 4 := by omega
          have HS := Lib.hid (show fauS (cntU l (i + 1)) = ((fauS (cntU l i)).1 ++ [v], (fauS (cntU l i)).2 ++ [(i : Int)]) by rw [HDO.out, HBD.out, q3, q4]; rfl)
          clear hb1
          go_wp2_with (at_builtin; refine stop_in ?_)
          refine stop_out ?_
          refine wpL_append_any rfl _ _ 52 rfl w2.heap.size 3 i0 (.int .i64 0) 1 8 Try.underlying52 hi0 hz0 hz1 hz2 rfl (by decide) (.slice ao M co) M _ rfl (HOO5.out.alloc (.cells #[.int .i64 i] 3)) (some ⟨w5.heap.size, 0, none⟩) 1 1 [.int .i64 i] rfl rfl (fun h => (by cases h)) (fun ad had => by cases had; exact cell_one_new w5 _ _) (ints_oneCell .i64 [(i : Int)]) (by unfold maxLen; omega) (by omega) (by have := hkp5.size; simp; omega) ?_
          intro v' w7 hown' hgrow hat
          have hk7 : Kp No w2 w7 := kp_app hkp5 HOO5.out (Nat.le_refl _) hgrow
          have HO7 := Lib.hid (own_app HOO5.out HO5.out (by decide) hgrow)
          obtain ⟨a7, c7, rfl, _, _, _⟩ := own_form hown'
          have HOO7 := Lib.hid hown'
          clear hown' hgrow hat
          go_wp2_with fail
          go_roundw
          case rel => exact ⟨i + 1, L ++ stepP e0 v :: R, by omega, by go_num, by rw [HMM.out]; exact HO7.out, by rw [HS.out]; exact HSTEP.out, by rw [HS.out, List.length_append, ← HM.out, List.map_append]; exact HOO7.out, hk7⟩
          case measure => simp [intOf]; omega
        · have HS := Lib.hid (show fauS (cntU l (i + 1)) = ((fauS (cntU l i)).1 ++ [v], (fauS (cntU l i)).2) by
            rw [HDO.out, HBD.out]
            have : (decide (wrap64 (e0.get f + v.vl) < e0.get f) && decide ((f : Int) < 4)) = false := by
              rw [← Bool.not_eq_true]
              simpa using hbad
            rw [this]
            simp)
          by_cases hb1 : wrap64 (e0.get f + v.vl) < e0.get f
          · have q3 : decide (wrap64 (e0.get f + v.vl) < e0.get f) = true := decide_eq_true hb1
            have q4 : decide ((f : Int) < 4) = false := decide_eq_false fun h => hbad ⟨hb1, h⟩
            have q5 : decide (f < 4) = false := decide_eq_false fun h => hbad ⟨hb1, by omega⟩
            clear hb1 hbad
            go_wp2_with fail
            go_roundw
            case rel => exact ⟨i + 1, L ++ stepP e0 v :: R, by omega, by go_num, by rw [HMM.out]; exact HO5.out, by rw [HS.out]; exact HSTEP.out, by rw [HS.out, ← HM.out]; exact HOO5.out, hkp5⟩
            case measure => simp [intOf]; omega
          · have q3 : decide (wrap64 (e0.get f + v.vl) < e0.get f) = false := decide_eq_false hb1
            clear hb1 hbad
            go_wp2_with fail
            go_roundw
            case rel => exact ⟨i + 1, L ++ stepP e0 v :: R, by omega, by go_num, by rw [HMM.out]; exact HO5.out, by rw [HS.out]; exact HSTEP.out, by rw [HS.out, ← HM.out]; exact HOO5.out, hkp5⟩
            case measure => simp [intOf]; omega
    · obtain rfl : i = n := by omega
      go_wp2_with fail
      refine bodyPost_ret (v := .tuple #[.slice ao M co, .int .i64 0]) (by simp [results, Try.results35, go_sem]) rfl ⟨_, rfl, by rw [HFV.out, ← HM.out]; exact own_mono HOO.out HK2.out.size, HK2.out.tr hkp⟩
end Go.Proofs.Ytjbpdimepckmfaa
