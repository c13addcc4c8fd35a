/- Chapter 27: the reference's State: the walk. -/
import Derived.StillTailTactics
import Derived.Test.YtjbpdimepckmfaaXPlc
import Derived.Test.YtjbpdimepckmfaaXRudM
import Derived.Test.YtjbpdimepckmfaaXStM
import Derived.Test.YtjbpdimepckmfaaXClnM
namespace Go.Proofs.Ytjbpdimepckmfaa
open Go.RowKit Go.Kq

/-- The works that count among the first i. -/
abbrev wsU (l : List Wk) (i : Nat) : List Wk := (cntU l i).map Prod.snd
theorem wsU_no {l : List Wk} {i : Nat} {v : Wk} (hv : l[i]? = some v) (h : isC l i v = false) : wsU l (i + 1) = wsU l i := by
  unfold wsU
  rw [cntU_succ hv, h]
  simp
theorem wsU_yes {l : List Wk} {i : Nat} {v : Wk} (hv : l[i]? = some v) (h : isC l i v = true) : wsU l (i + 1) = wsU l i ++ [v] := by
  unfold wsU
  rw [cntU_succ hv, h]
  simp
theorem isSt_len {ws : List Wk} {s : List Pv} (h : IsSt ws s) : s.length ≤ ws.length := by
  have h1 := nodup_lenP (s.map Pv.p) (ws.map Wk.pp) (by
    rw [List.nodup_iff_pairwise_ne, List.pairwise_map]
    exact h.1.imp fun {x y} h e => by rw [e, ltP_irr] at h; cases h) fun p hp => by
      obtain ⟨v, hv, rfl⟩ := List.mem_map.1 hp
      obtain ⟨u, hu, e⟩ := stOf_some.1 (by rw [(h.2 v).1 hv]; rfl : (stOf ws v.p).isSome = true)
      exact List.mem_map.2 ⟨u, hu, e⟩
  rwa [List.length_map, List.length_map] at h1
theorem isSt_nil : IsSt [] [] := ⟨List.Pairwise.nil, fun v => by simp [stOf_nil]⟩
/-- A field of an element stored. -/
theorem own_field {w : World} {base n cl g : Nat} {L R : List Pv} {e : Pv} (h : w.ownsRow base 64 12 (.slice (some ⟨g, 0, none⟩) n cl) n ((L ++ e :: R).flatMap Pv.cells)) {j : Nat} (hj : j < 12) (x : Value) (e' : Pv) (he : e.cells.set j x = e'.cells) :
    (w.setCell ⟨g, L.length * 12 + j, none⟩ x).ownsRow base 64 12 (.slice (some ⟨g, 0, none⟩) n cl) n ((L ++ e' :: R).flatMap Pv.cells) := by
  have h1 := own_set h (L.length * 12 + j) x
  have h2 := flat_set pv_len (L ++ e :: R) L.length e e' j x (by simp) hj he
  rw [h2, List.set_append_right _ _ (Nat.le_refl _), Nat.sub_self] at h1
  exact h1
theorem note_cells (e : Pv) (n : Int) (t : ByteArray) : (e.cells.set 10 (.int .i64 n)).set 11 (.string t) = (e.note n t).cells := rfl
set_option maxHeartbeats 6000000 in
set_option maxRecDepth 100000 in
theorem rState_any (A : Option Addr) (n ca : Nat) (l : List Wk) (w : World) (hx : RdW w A n l) (hf : Fits l) (hca : n ≤ ca) :
    Calls Try.prog 24 #[.slice A n ca] w fun e w' => ∃ v s, e = .returned (.tuple #[v, .int .i64 (chkL l)]) ∧ StRes l s ∧ w'.ownsRow w.heap.size 64 12 v s.length (s.flatMap Pv.cells) ∧ Kp No w w' := by
  have hc := rCheck_any A n ca l w hx hf hca
  have HX := Lib.hid hx
  clear hx hf
  by_cases h1 : chkL l = 0
  rotate_left
  · have q1 : (chkL l != 0) = true := by rw [bne_iff_ne]; exact h1
    have HV := Lib.hid (show StRes l [] by unfold StRes; rw [if_neg h1])
    generalize chkL l = x at hc q1 ⊢
    clear h1
    go_enter Try.func24, Try.ntmps24
    go_wp2_with fail
    with_reducible refine hc.mono ?_
    rintro e w1 ⟨rfl, hk1⟩
    go_wp2_with fail
    refine bodyPost_ret (v := .tuple #[.slice none 0 0, .int .i64 x]) (by simp [results, Try.results24, go_sem]) rfl ⟨.slice none 0 0, [], rfl, HV.out, ⟨rfl, .inl ⟨rfl, rfl⟩⟩, hk1⟩
  have HR := Lib.hid (rec_of h1)
  have HL := Lib.hid HX.out.1
  have hn : n ≤ 400 := by rw [← HL.out]; exact HR.out.len
  have HRS := Lib.hid (show ∀ s, IsSt (cws l) s → StRes l s from fun s hs => by unfold StRes; rw [if_pos h1]; exact hs)
  rw [h1] at hc ⊢
  clear h1
  go_enter Try.func24, Try.ntmps24
  go_wp2_with fail
  with_reducible refine hc.mono ?_
  rintro e w1 ⟨rfl, hk1⟩
  go_wp2_with fail
  with_reducible refine (rundone_any A n ca l w1 (HX.out.no hk1) (by omega) hca HR.out.names).mono ?_
  rintro e w2 ⟨G, rfl, hg, hk12⟩
  have hk2 := hk1.tr hk12
  have HG := Lib.hid hg
  have HK2 := Lib.hid hk2
  have HX2 := Lib.hid (HX.out.no hk2)
  clear hc hg hk1 hk12 hk2
  go_wp2_with fail
  go_loopw [6, 7] (fun vo vi wr => ∃ (i : Nat) (s : List Pv), i ≤ n ∧ vi = .int .i64 i ∧ wr.ownsRow w2.heap.size 64 12 vo s.length (s.flatMap Pv.cells) ∧ IsSt (wsU l i) s ∧ Kp No w2 wr) (fun _ vi _ => n - (intOf vi).toNat)
  case atStart => exact ⟨0, [], by omega, rfl, ⟨rfl, .inl ⟨rfl, rfl⟩⟩, isSt_nil, Kp.refl _ _⟩
  case round =>
    obtain ⟨i, s, hi, rfl, how, hst, hkp⟩ := hrel
    have HST := Lib.hid hst
    have hsl : s.length ≤ 400 := by
      have h1 := isSt_len hst
      have h2 := cntU_len l i
      rw [List.length_map] at h1
      omega
    obtain ⟨sn, hsn⟩ : ∃ sn, sn = s.length := ⟨_, rfl⟩
    rw [← hsn] at how hsl
    have HSN := Lib.hid hsn
    obtain ⟨al, cl, rfl, _, _, _⟩ := own_form how
    have HOW := Lib.hid how
    clear how hst hsn
    by_cases hlt : i < n
    · obtain ⟨v, hv⟩ : ∃ v, l[i]? = some v := ⟨_, List.getElem?_eq_getElem (by rw [HL.out]; omega)⟩
      obtain ⟨b, o, rfl, _, hat⟩ := RdW.at_ (HX2.out.no hkp) hv
      obtain ⟨q, hq⟩ : ∃ q, (undL l)[i]? = some q := ⟨_, List.getElem?_eq_getElem (by rw [undL_len, HL.out]; omega)⟩
      have cg : wr.cell? ⟨G, i, none⟩ = some (.bool q) := hkp.cell (own_cell HG.out (by rw [List.getElem?_map, hq]; rfl)) id
      have HIC := Lib.hid (show isC l i v = (!q && v.kd != 4) by unfold isC; rw [List.getD_eq_getElem?_getD, hq]; rfl)
      have HV := Lib.hid hv
      have hin : (i : Int) < (n : Int) := by omega
      obtain ⟨c0, c1, c2, c3, c4, c5, c6, c7, c8, c9, c10⟩ := hat
      clear hv hq
      cases q with
      | true =>
        have HW := Lib.hid (wsU_no HV.out (by rw [HIC.out]; rfl))
        go_wp2_with fail
        go_roundw
        case rel => exact ⟨i + 1, s, by omega, by go_num, by rw [← HSN.out]; exact HOW.out, by rw [HW.out]; exact HST.out, hkp⟩
        case measure => simp [intOf]; omega
      | false =>
      by_cases h4 : v.kd = 4
      · have q4 : (v.kd == 4) = true := by rw [beq_iff_eq]; exact h4
        have HW := Lib.hid (wsU_no HV.out (by rw [HIC.out, h4]; rfl))
        clear h4
        go_wp2_with fail
        go_roundw
        case rel => exact ⟨i + 1, s, by omega, by go_num, by rw [← HSN.out]; exact HOW.out, by rw [HW.out]; exact HST.out, hkp⟩
        case measure => simp [intOf]; omega
      have q4 : (v.kd == 4) = false := by rw [beq_eq_false_iff_ne]; exact h4
      have HW := Lib.hid (wsU_yes HV.out (by rw [HIC.out]; simp [h4]))
      have hcs := okW_cases (HR.out.ok v (List.mem_of_getElem? HV.out)) h4
      have HC := Lib.hid hcs
      have hpl := rplace_any (.slice al sn cl) sn w2.heap.size s v.pp wr HOW.out hkp.size (by omega)
      clear h4 hcs
      go_wp2_with fail
      change Calls _ _ #[.slice al sn cl, ep v.pp] _ _
      with_reducible refine hpl.mono ?_
      rintro e w3 ⟨v3, L, e0, R, rfl, ho3, hpr, hk3⟩
      have HPR := Lib.hid hpr
      have hkp3 := hkp.tr hk3
      obtain ⟨a3, c3', rfl, _, _, ha3⟩ := own_form ho3
      obtain ⟨g, rfl⟩ := ha3 (by rw [List.length_append, List.length_cons]; omega)
      have HO3 := Lib.hid ho3
      have hgl := (own_ge ho3 (g := g) rfl)
      obtain ⟨b', o', hbo, _, hat⟩ := RdW.at_ (HX2.out.no hkp3) HV.out
      cases hbo
      obtain ⟨c0, c1, c2, c3, c4, c5, c6, c7, c8, c9, c10⟩ := hat
      have hbg : b ≠ g := fun e => by
        obtain ⟨b2, o2, h5, h6, _⟩ := HX2.out.2 i v HV.out
        cases h5
        omega
      have hgb : g ≠ b := fun e => hbg e.symm
      have HSTEP := Lib.hid (plc_step HST.out hpr rfl)
      have HKG := Lib.hid (fun (w' : World) (k : Kp (Kq.One g) w3 w') => (hkp3.trans k (fun j hj e => by have e : j = g := e; omega) : Kp No w2 w'))
      obtain ⟨m, hm⟩ : ∃ m, m = (L ++ e0 :: R).length := ⟨_, rfl⟩
      have hLm : L.length < m := by rw [hm, List.length_append, List.length_cons]; omega
      have HM := Lib.hid (show ∀ e1 : Pv, (L ++ e1 :: R).length = m from fun e1 => by rw [hm]; simp)
      rw [← hm] at HO3 ⊢
      obtain ⟨k, hk⟩ : ∃ k, k = L.length := ⟨_, rfl⟩
      rw [← hk] at hLm ⊢
      have HK := Lib.hid hk
      have hkm : (k : Int) < (m : Int) := by omega
      have hrow := HO3.out
      have hek : (L ++ e0 :: R)[k]? = some e0 := by rw [hk]; simp
      have HCE := Lib.hid (row_at pv_len hrow (by decide) hek)
      have HFZ := Lib.hid (own_free hrow)
      clear hpl ho3 hpr hm hk hrow hek ha3 hk3
      rcases HC.out with ⟨h12, f, hfd, hf8⟩ | h3
      · have HFD := Lib.hid hfd
        rw [hfd] at c6
        have hf8i : (f : Int) < 8 := by omega
        have cf : w3.cell? ⟨g, k * 12 + 2 + f, none⟩ = some (.int .i64 (e0.get f)) := by rw [Nat.add_assoc]; exact HCE.out (2 + f) _ (Pv.cells_get e0 hf8)
        have ff : w3.frozen? ⟨g, k * 12 + 2 + f, none⟩ = false := HFZ.out _
        clear hfd
        by_cases h1 : v.kd = 1
        · have p1 : (v.kd == 1) = true := by rw [beq_iff_eq]; exact h1
          have HSE := Lib.hid (show stepP e0 v = e0.set f v.vl by unfold stepP; rw [if_pos h1, HFD.out]; rfl)
          clear h12 h1
          go_wp2_with fail
          go_still_tail 15, (by kernel_rfl)
          go_wp2_with fail
          go_roundw
          case rel =>
            refine ⟨i + 1, L ++ e0.set f v.vl :: R, by omega, by go_num, ?_, by rw [HW.out, ← HSE.out]; exact HSTEP.out, HKG.out _ ((kp_setOne _ _ _ _).tr (Kp.drew _ _))⟩
            rw [HM.out]
            have h := own_field HO3.out (j := 2 + f) (by omega) (.int .i64 v.vl) (e0.set f v.vl) (Pv.cells_set e0 hf8 _)
            rw [← HK.out, ← Nat.add_assoc] at h
            exact (Kp.drew No _).owns h fun _ _ h => h
          case measure => simp [intOf]; omega
        · have h2 : v.kd = 2 := h12.resolve_left h1
          have p1 : (v.kd == 1) = false := by rw [beq_eq_false_iff_ne]; exact h1
          have p2 : (v.kd == 2) = true := by rw [beq_iff_eq]; exact h2
          have HSE := Lib.hid (show stepP e0 v = e0.set f (wrap64 (e0.get f + v.vl)) by unfold stepP; rw [if_neg h1, if_pos h2, HFD.out]; rfl)
          clear h12 h1 h2
          go_wp2_with fail
          go_still_tail 27, (by kernel_rfl)
          go_wp2_with fail
          go_roundw
          case rel =>
            refine ⟨i + 1, L ++ e0.set f (wrap64 (e0.get f + v.vl)) :: R, by omega, by go_num, ?_, by rw [HW.out, ← HSE.out]; exact HSTEP.out, HKG.out _ ((kp_setOne _ _ _ _).tr (Kp.drew _ _))⟩
            rw [HM.out]
            have h := own_field HO3.out (j := 2 + f) (by omega) (.int .i64 (wrap64 (e0.get f + v.vl))) (e0.set f (wrap64 (e0.get f + v.vl))) (Pv.cells_set e0 hf8 _)
            rw [← HK.out, ← Nat.add_assoc] at h
            exact (Kp.drew No _).owns h fun _ _ h => h
          case measure => simp [intOf]; omega
      · have p1 : (v.kd == 1) = false := by rw [beq_eq_false_iff_ne]; omega
        have p2 : (v.kd == 2) = false := by rw [beq_eq_false_iff_ne]; omega
        have p3 : (v.kd == 3) = true := by rw [beq_iff_eq]; exact h3
        have HSE := Lib.hid (show stepP e0 v = e0.note (wrap64 (e0.no + 1)) v.tx by unfold stepP; rw [if_neg (by omega), if_neg (by omega)])
        have d10 : w3.cell? ⟨g, k * 12 + 10, none⟩ = some (.int .i64 e0.no) := HCE.out 10 _ rfl
        have d11 : w3.cell? ⟨g, k * 12 + 11, none⟩ = some (.string e0.la) := HCE.out 11 _ rfl
        have f10 : w3.frozen? ⟨g, k * 12 + 10, none⟩ = false := HFZ.out _
        have f11 : w3.frozen? ⟨g, k * 12 + 11, none⟩ = false := HFZ.out _
        clear h3
        go_wp2_with fail
        go_roundw
        case rel =>
          refine ⟨i + 1, L ++ e0.note (wrap64 (e0.no + 1)) v.tx :: R, by omega, by go_num, ?_, by rw [HW.out, ← HSE.out]; exact HSTEP.out, HKG.out _ ((kp_setOne _ _ _ _).tr (kp_setOne _ _ _ _))⟩
          rw [HM.out]
          have h := own_field HO3.out (j := 10) (by omega) (.int .i64 (wrap64 (e0.no + 1))) { e0 with no := wrap64 (e0.no + 1) } rfl
          have h := own_field h (j := 11) (by omega) (.string v.tx) (e0.note (wrap64 (e0.no + 1)) v.tx) rfl
          rw [← HK.out] at h
          exact h
        case measure => simp [intOf]; omega
    · obtain rfl : i = n := by omega
      have HF := Lib.hid (HRS.out s (show IsSt (cws l) s by have h := HST.out; rw [← HL.out] at h; exact h))
      go_wp2_with fail
      refine bodyPost_ret (v := .tuple #[.slice al sn cl, .int .i64 0]) (by simp [results, Try.results24, go_sem]) rfl ⟨_, s, rfl, HF.out, by rw [← HSN.out]; exact own_mono HOW.out HK2.out.size, HK2.out.tr hkp⟩
end Go.Proofs.Ytjbpdimepckmfaa
