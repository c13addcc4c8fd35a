/- Chapter 27: State: the walk. -/
import Derived.Test.YtjbpdimepckmfaaXStW
import Derived.Test.YtjbpdimepckmfaaXMrg
namespace Go.Proofs.Ytjbpdimepckmfaa
open Go.RowKit Go.Kq Go.Sort

abbrev cws (l : List Wk) : List Wk := (cntL l).map Prod.snd
def valP (ws : List Wk) (p : Pp) : Pv := (stOf ws p).getD (pv0 p)
theorem valP_p (ws : List Wk) (p : Pp) : (valP ws p).p = p := by
  unfold valP
  cases h : stOf ws p with
  | none => rfl
  | some u => exact stOf_p h
theorem isSt_of {ws : List Wk} {S : List Pp} {l : List Pv} (hn : S.Nodup) (hS : ∀ p, p ∈ S ↔ (stOf ws p).isSome = true) (hp : l.Perm (S.reverse.map (valP ws))) (hs : l.Pairwise fun x y => ltP y.p x.p = false) : IsSt ws l := by
  have hmem : ∀ v, v ∈ l ↔ ∃ p ∈ S, valP ws p = v := fun v => by rw [hp.mem_iff]; simp
  have hn2 : (S.reverse.map (valP ws)).Nodup := by
    rw [List.nodup_iff_pairwise_ne, List.pairwise_map]
    refine (List.nodup_iff_pairwise_ne.1 ((List.reverse_perm S).nodup_iff.2 hn)).imp fun {a b} h e => h ?_
    have := congrArg Pv.p e
    rwa [valP_p, valP_p] at this
  have hnl := hp.nodup_iff.2 hn2
  refine ⟨?_, fun v => ?_⟩
  · have h1 : l.Pairwise fun x y => ltP y.p x.p = false ∧ x ≠ y := hs.and hnl
    refine List.pairwise_iff_forall_sublist.2 fun {x y} hsub => ?_
    obtain ⟨h3, h4⟩ := List.pairwise_iff_forall_sublist.1 h1 hsub
    cases h5 : ltP x.p y.p with
    | true => rfl
    | false =>
      have hm := hsub.subset
      obtain ⟨p, _, hpx⟩ := (hmem x).1 (hm (by simp))
      obtain ⟨q, _, hqy⟩ := (hmem y).1 (hm (by simp))
      have := ltP_total h5 h3
      rw [← hpx, ← hqy, valP_p, valP_p] at this
      subst this
      exact absurd (hpx.symm.trans hqy) h4
  · rw [hmem]
    constructor
    · rintro ⟨p, hpS, rfl⟩
      rw [valP_p]
      have := (hS p).1 hpS
      unfold valP
      cases h : stOf ws p with
      | none => rw [h] at this; cases this
      | some u => rfl
    · intro h
      exact ⟨v.p, (hS _).2 (by rw [h]; rfl), by unfold valP; rw [h]; rfl⟩
/-- What State hands back. -/
def StRes (l : List Wk) (s : List Pv) : Prop := if chkL l = 0 then IsSt (cws l) s else s = []
theorem info64 : (Try.prog.info? 64).map (fun i => (i.zero, i.size, i.bytes)) = some (some (Pv.val default), 12, 104) := by kernel_rfl
theorem pv_one (x : Pv) : ∀ v ∈ x.cells, v.oneCell' = true := by
  intro v hv
  simp [Pv.cells] at hv
  rcases hv with rfl | rfl | rfl | rfl | rfl | rfl | rfl | rfl | rfl | rfl | rfl | rfl <;> rfl
def cmpV (a b : Pv) : Int := cmpP a.p b.p
theorem ltV (x y : Pv) : ltOf cmpV x y = ltP x.p y.p := cmpP_lt x.p y.p
theorem swoV : SWO (ltOf cmpV) where
  irrefl x := by rw [ltV]; exact ltP_irr _
  trans x y z h1 h2 := by rw [ltV] at *; exact ltP_trans h1 h2
  ntrans x y z h1 h2 := by
    rw [ltV, ltP_no] at *
    omega
theorem cmpLaysV (blk off size : Nat) (w : World) : CmpLays Try.prog 53 #[] Pv.cells 12 cmpV blk off size w := fun _ _ _ _ x y => order2_any x y _
theorem wpL_next_st {P : Program} (w : World) {ops : Array Oper} {rest : List Oper} {o : Oper} {a : Act} {Q : Exit → Act → World → Prop} {b : Nat} {E : List (Pp × Option Nat)} (hE : ∀ p o, (p, o) ∈ E → ∃ g, o = some g) (hg : o.guard = none) (it : Operand) (hop : o.op = Op.next it false) {kt : TypeId} (L : KeyOk P kt ep) {r : Nat} {S : List Pp}
    (h : RangeAt w b r ep eo E S) (hit : a.eval it = .pointer (some ⟨r, 0, none⟩))
    (hDone : (∀ k ∈ keys E, k ∈ S) → wpList P ops Q rest (a.put o.dst (.tuple #[.bool false])) w)
    (hMore : ∀ (p1 p2 : Int) (g : Nat) w', ((p1, p2), some g) ∈ E → (p1, p2) ∉ S → RangeAt w' b r ep eo E ((p1, p2) :: S) → w.grownBy w' (some r) → w'.heap.size = w.heap.size → (Instr.entry (.pointer (some ⟨r, 0, none⟩))).run P w' = .ok (.tuple #[.agg #[.int .i64 p1, .int .i64 p2], .pointer (some ⟨g, 0, none⟩)]) w' →
      wpList P ops Q rest (a.put o.dst (.tuple #[.bool true, .agg #[.int .i64 p1, .int .i64 p2], .pointer (some ⟨g, 0, none⟩)])) w') : wpList P ops Q (o :: rest) a w :=
  wpL_next w hg it hop L h hit hDone fun ⟨p1, p2⟩ v w' h1 h2 h3 h4 h5 h6 => by
    obtain ⟨g, rfl⟩ := hE _ _ h1
    exact hMore p1 p2 g w' h1 h2 h3 h4 h5 h6
theorem range_nodupP {ek : Pp → Value} {ev : Option Nat → Value} {w : World} {b r : Nat} {E : List (Pp × Option Nat)} {S : List Pp} (h : RangeAt w b r ek ev E S) : S.Nodup ∧ (∀ k ∈ S, k ∈ keys E) := by
  obtain ⟨_, _, _, _, _, _, _, _, _, _, _, h1, h2⟩ := h
  exact ⟨h1, h2⟩
theorem nodup_lenP : ∀ (S U : List Pp), S.Nodup → (∀ k ∈ S, k ∈ U) → S.length ≤ U.length
  | [], U, _, _ => by simp
  | k :: S, U, hn, h => by
    rw [List.nodup_cons] at hn
    have hk := h k (by simp)
    have h1 := nodup_lenP S (U.erase k) hn.2 fun j hj => (List.mem_erase_of_ne (fun e : j = k => hn.1 (by rw [← e]; exact hj))).2 (h j (by simp [hj]))
    rw [List.length_erase_of_mem hk] at h1
    have : 0 < U.length := List.length_pos_of_mem hk
    simp only [List.length_cons]
    omega
theorem keys_few {ws : List Wk} {E : List (Pp × Option Nat)} (hn : (keys E).Nodup) (h : ∀ p o, get1 E p = some o → ∃ v, stOf ws p = some v) : E.length ≤ ws.length := by
  have h1 := nodup_lenP (keys E) (ws.map Wk.pp) hn fun p hp => by
    obtain ⟨⟨q, o⟩, hm, rfl⟩ := List.mem_map.1 hp
    obtain ⟨v, hv⟩ := h q o (get1_mem hn hm)
    obtain ⟨w, hw, e⟩ := stOf_some.1 (by rw [hv]; rfl : (stOf ws q).isSome = true)
    exact List.mem_map.2 ⟨w, hw, e⟩
  simpa [keys] using h1
theorem new_pv (w : World) (v : Pv) : ∀ ad, some (⟨w.heap.size, 0, none⟩ : Addr) = some ad → ∀ j u, v.cells[j]? = some u → (w.alloc (.cells v.cells.toArray 64)).cell? (ad.add j) = some u := fun ad had => by
  cases had
  exact new_cells w v.cells (by rw [pv_len]; unfold maxLen; omega)
theorem own_notIter {κ ν : Type} {ek : κ → Value} {ev : ν → Value} {E : List (κ × ν)} {S : List κ} {w : World} {base n b r : Nat} {e : TypeId} {size : Nat} {v : Value} {xs : List Value} (h : w.ownsRow base e size v n xs) (hr : RangeAt w b r ek ev E S) : v.ownBlock ≠ some r := by
  intro hg
  obtain ⟨_, _, _, _, _, _, h3, _⟩ := hr
  rcases h.2 with ⟨rfl, _⟩ | ⟨g1, _, _, rfl, _, hh, _⟩
  · cases hg
  · injection hg with hg
    have hg : g1 = r := hg
    rw [hg, h3] at hh
    cases hh
theorem box_notIter {κ ν : Type} {ek : κ → Value} {ev : ν → Value} {E : List (κ × ν)} {S : List κ} {w : World} {g b r : Nat} {v : Pv} (h : BoxP w g v) (hr : RangeAt w b r ek ev E S) : g ≠ r := by
  intro hg
  obtain ⟨_, _, _, _, _, _, h3, _⟩ := hr
  unfold BoxP at h
  rw [hg, h3] at h
  cases h
set_option maxHeartbeats 4000000 in
set_option maxRecDepth 100000 in
theorem State_any (A : Option Addr) (n ca : Nat) (l : List Wk) (w : World) (hx : RdW w A n l) (hf : Fits l) :
    Calls Try.prog 16 #[.slice A n ca] w fun e w' => ∃ v s, e = .returned (.tuple #[v, .int .i64 (chkL l)]) ∧ StRes l s ∧ w'.ownsRow w.heap.size 64 12 v s.length (s.flatMap Pv.cells) ∧ Kp No w w' := by
  obtain ⟨i0, hi0, hz0, hz1, hz2⟩ := info_parts info64
  by_cases he : chkL l = 0
  · have HR := Lib.hid (rec_of he)
    go_enter Try.func16, Try.ntmps16
    go_wp2_with fail
    refine (Check_any A n ca l w hx hf).mono ?_
    rw [he]
    rintro e w1 ⟨rfl, hk1⟩
    go_wp2_with fail
    refine (state_any A n ca l w1 HR.out (hx.no hk1)).mono ?_
    rintro e w2 ⟨B, rfl, hst, hB, hk12⟩
    have hk2 := hk1.tr hk12
    have hcl : (cws l).length ≤ 400 := by unfold cws cntL; rw [List.length_map]; have := cntU_len l l.length; have := HR.out.len; omega
    have HHE := Lib.hid he
    replace hst : StAt w2 B w1.heap.size (cws l) := hst
    generalize hws : cws l = ws at hst hcl
    have HWS := Lib.hid hws
    obtain ⟨E, hm, h1, h2⟩ := hst
    have hEl : E.length ≤ ws.length := keys_few hm.nodup fun p o h => by obtain ⟨g, v, _, hv, _⟩ := h1 p o h; exact ⟨v, hv⟩
    have HM := Lib.hid hm
    have hsz := hk1.size
    have H1 := Lib.hid h1
    have H2 := Lib.hid h2
    have hall : ∀ p o, (p, o) ∈ E → ∃ g, o = some g := fun p o hmm => by obtain ⟨g, v, h, _⟩ := h1 p o (get1_mem hm.nodup hmm); exact ⟨g, h⟩
    have HALL := Lib.hid hall
    clear hws hm h1 h2 hk12 hall he hf
    go_wp2_with (at_range; refine wpL_range _ rfl _ _ rfl Try.underlying79 HM.out rfl ?_; intro w3 hr1 hg1 hs1)
    go_frame
    have hkr : Kp No w2 w3 := Kp.grown_none hg1
    have hk3 := hk2.tr hkr
    have hw2 := hk2.size
    have HK := Lib.hid hk3
    have HKR := Lib.hid hkr
    have HR1 := Lib.hid hr1
    clear hr1 hg1 hs1 hk3 hkr hk2
    go_loopg [5] E.length (fun g vo wr => ∃ S : List Pp, S.length + g = E.length ∧ RangeAt wr B w2.heap.size ep eo E S ∧ wr.ownsRow w2.heap.size 64 12 vo S.length ((S.reverse.map (valP ws)).flatMap Pv.cells) ∧ (∀ p o, get1 E p = some o → ∃ g v, o = some g ∧ stOf ws p = some v ∧ g < w2.heap.size ∧ BoxP wr g v) ∧ Kp No w wr ∧ Kp No w2 wr)
    case atStart => exact ⟨[], by simp, HR1.out, ⟨rfl, .inl ⟨rfl, rfl⟩⟩, fun p o h => by
      obtain ⟨g, v, h3, h4, h5, h6⟩ := H1.out p o h
      exact ⟨g, v, h3, h4, h6.lt, HKR.out.heap h6 id⟩, HK.out, HKR.out⟩
    case round =>
      obtain ⟨S, hSl, hrg, how, hbx, hkp, hkp2⟩ := hrel
      have HSL := Lib.hid hSl
      have HOW := Lib.hid how
      have HBX := Lib.hid hbx
      obtain ⟨al, cl, rfl, hcap, hml, hA⟩ := own_form HOW.out
      have HA := Lib.hid hA
      have hlS := nodup_lenP S (keys E) (range_nodupP hrg).1 (range_nodupP hrg).2
      rw [show (keys E).length = E.length by simp [keys]] at hlS
      clear hSl how hbx hA
      go_wp2_with (at_next; refine stop_in ?_)
      refine stop_out ?_
      refine wpL_next_st _ HALL.out rfl _ rfl pipeOk hrg rfl (fun hall => ?_) (fun p1 p2 g w4 hmem hnS hrng hgr hsz4 hen => ?_)
      · have hS : ∀ p, p ∈ S ↔ (stOf ws p).isSome = true := fun p => by
          have h3 := range_nodupP hrg
          constructor
          · intro hp
            have h4 : get1 E p ≠ none := fun h => (get1_none_iff E p).1 h (h3.2 p hp)
            cases ho : get1 E p with
            | none => exact absurd ho h4
            | some o =>
              obtain ⟨g, v, _, h5, _⟩ := H1.out p o ho
              rw [h5]
              rfl
          · intro hp
            refine hall p ?_
            cases ho : get1 E p with
            | none => rw [H2.out p ho] at hp; cases hp
            | some o =>
              have : ¬ get1 E p = none := by rw [ho]; simp
              rw [get1_none_iff] at this
              exact Classical.not_not.1 this
        have HQ := Lib.hid (fun (l' : List Pv) (hp : l'.Perm (S.reverse.map (valP ws))) (hs : l'.Pairwise fun x y => ltP y.p x.p = false) => (isSt_of (range_nodupP hrg).1 hS hp hs : IsSt ws l'))
        have HRS := Lib.hid (show ∀ s, IsSt ws s → StRes l s from fun s hs => by unfold StRes; rw [if_pos HHE.out, HWS.out]; exact hs)
        have HVL := Lib.hid (show (S.reverse.map (valP ws)).length = S.length by simp)
        generalize hvs : S.reverse.map (valP ws) = vs at HOW HQ HVL
        clear hS hvs hrg hall
        by_cases h0 : S.length = 0
        · have hs := AnyF.slices_SortFunc_none { sortV with } al cl (.func (.func 53) #[] #[]) wr
          change Calls Try.prog 52 _ _ _ at hs
          have h00 := HVL.out
          rw [h0] at h00 HOW
          have hnil := List.length_eq_zero_iff.1 h00
          subst hnil
          rw [h0]
          clear h00
          go_wp2_with fail
          refine hs.mono ?_
          rintro e w' ⟨rfl, rfl⟩
          go_wp2_with fail
          refine bodyPost_ret (v := .tuple #[.slice al 0 cl, .int .i64 0]) (by simp [results, Try.results16, go_sem]) rfl ⟨.slice al 0 cl, [], by rw [HHE.out], HRS.out _ (HQ.out _ (List.Perm.refl _) List.Pairwise.nil), own_mono HOW.out hw2, hkp⟩
        · obtain ⟨g, rfl⟩ := HA.out (by omega)
          have hgl := own_ge HOW.out (g := g) rfl
          have hs := AnyQ.slices_SortFunc sortV 12 Try.isAgg64 Try.sizeOf64 Pv.cells pv_len pv_one cmpV swoV 53 #[] g 0 cl vs.toArray wr (enters_of Try.func53 (by kernel_rfl) rfl) (cmpLaysV g 0 _ wr) (own_holdsK pv_len HOW.out) hgl.2 (by rw [List.size_toArray, HVL.out]; omega)
          change Calls Try.prog 52 _ _ _ at hs
          simp only [List.size_toArray, HVL.out] at hs
          clear h0
          go_wp2_with fail
          refine hs.mono ?_
          rintro e w' ⟨rfl, d', m, os, hpi, hsi, rfl⟩
          have hP2 := perm_of_permIn (l := vs) (by rw [List.size_toArray, HVL.out]; exact hpi)
          have hsz' : d'.size = S.length := by have := hP2.length_eq; rw [HVL.out] at this; simpa using this
          have hpw := pairwise_of_sortedIn hsz' hsi
          obtain ⟨l'⟩ := d'
          have hl2 : l'.length = S.length := by simpa using hsz'
          have ho2 := own_sortedK (ts := l') (m := m) (os := os) pv_len HOW.out (by rw [hl2, HVL.out])
          have hk2' := kp_sortedK (w := wr) (g := g) (m := m) (os := os) pv_len l'
          have HO2 := Lib.hid ho2
          have HK2 := Lib.hid (hkp.trans hk2' (fun k hk h => absurd hk (by unfold Kq.One at h; omega)) : Kp No w _)
          have HE2 := Lib.hid (HQ.out l' hP2 (hpw.imp fun {x y} h => by rwa [ltV] at h))
          have HL2 := Lib.hid hl2
          clear ho2 hk2' hpi hsi hP2 hpw hs hsz' hl2
          generalize sortWorldK Pv.cells 12 wr g 0 m l'.toArray os = w3' at *
          go_wp2_with fail
          refine bodyPost_ret (v := .tuple #[.slice (some ⟨g, 0, none⟩) S.length cl, .int .i64 0]) (by simp [results, Try.results16, go_sem]) rfl ⟨.slice (some ⟨g, 0, none⟩) S.length cl, l', by rw [HHE.out], HRS.out _ HE2.out, by rw [HL2.out]; exact own_mono HO2.out hw2, HK2.out⟩
      · obtain ⟨g', v, hgg, hv, _, hbv⟩ := HBX.out _ _ (get1_mem HM.out.nodup hmem)
        cases hgg
        have hkg : Kp (Kq.One w2.heap.size) wr w4 := Kp.grown hgr fun k hk _ => by injection hk with hk; exact hk.symm
        have key : ∀ (g : Nat) (v : Pv), BoxP wr g v → BoxP w4 g v := fun g v h => hkg.heap h fun e => by
          have e : g = w2.heap.size := e
          exact box_notIter h hrg e
        have HB := Lib.hid (key _ _ hbv)
        have HBX4 := Lib.hid (show ∀ p o, get1 E p = some o → ∃ g v, o = some g ∧ stOf ws p = some v ∧ g < w2.heap.size ∧ BoxP w4 g v from fun p o h => by
          obtain ⟨g, v, h3, h4, h5, h6⟩ := HBX.out p o h
          exact ⟨g, v, h3, h4, h5, key _ _ h6⟩)
        have HO4 := Lib.hid (hkg.owns HOW.out fun g hg e => by
          have e : g = w2.heap.size := e
          exact own_notIter HOW.out hrg (by rw [hg, e]))
        have hk4 : Kp No w w4 := hkp.trans hkg fun k hk e => by have e : k = w2.heap.size := e; omega
        have hkw4 : Kp No w2 w4 := hkp2.trans hkg fun k hk e => by have e : k = w2.heap.size := e; omega
        have hlS2 := nodup_lenP _ (keys E) (range_nodupP hrng).1 (range_nodupP hrng).2
        rw [show (keys E).length = E.length by simp [keys], List.length_cons] at hlS2
        have HVV := Lib.hid (show valP ws (p1, p2) = v by unfold valP; rw [hv]; rfl)
        have HMORE := Lib.hid hrng
        have d0 : w4.cell? ⟨g, 0, none⟩ = some (.int .i64 v.p.1) := (HB.out.at_ (j := 0) rfl).1
        have d1 : w4.cell? ⟨g, 1, none⟩ = some (.int .i64 v.p.2) := (HB.out.at_ (j := 1) rfl).1
        have d2 : w4.cell? ⟨g, 2, none⟩ = some (.int .i64 v.f0) := (HB.out.at_ (j := 2) rfl).1
        have d3 : w4.cell? ⟨g, 3, none⟩ = some (.int .i64 v.f1) := (HB.out.at_ (j := 3) rfl).1
        have d4 : w4.cell? ⟨g, 4, none⟩ = some (.int .i64 v.f2) := (HB.out.at_ (j := 4) rfl).1
        have d5 : w4.cell? ⟨g, 5, none⟩ = some (.int .i64 v.f3) := (HB.out.at_ (j := 5) rfl).1
        have d6 : w4.cell? ⟨g, 6, none⟩ = some (.int .i64 v.f4) := (HB.out.at_ (j := 6) rfl).1
        have d7 : w4.cell? ⟨g, 7, none⟩ = some (.int .i64 v.f5) := (HB.out.at_ (j := 7) rfl).1
        have d8 : w4.cell? ⟨g, 8, none⟩ = some (.int .i64 v.f6) := (HB.out.at_ (j := 8) rfl).1
        have d9 : w4.cell? ⟨g, 9, none⟩ = some (.int .i64 v.f7) := (HB.out.at_ (j := 9) rfl).1
        have d10 : w4.cell? ⟨g, 10, none⟩ = some (.int .i64 v.no) := (HB.out.at_ (j := 10) rfl).1
        have d11 : w4.cell? ⟨g, 11, none⟩ = some (.string v.la) := (HB.out.at_ (j := 11) rfl).1
        clear hmem hnS hgr hsz4 hv hbv hkg key hrg hrng
        go_wp2_with (at_builtin; refine stop_in ?_)
        refine stop_out ?_
        refine wpL_append_any rfl _ _ 29 rfl w2.heap.size 64 i0 (Pv.val default) 12 104 Try.underlying29 hi0 hz0 hz1 hz2 rfl (by decide) (.slice al S.length cl) S.length _ rfl (HO4.out.alloc (.cells v.cells.toArray 64)) (some ⟨w4.heap.size, 0, none⟩) 1 1 v.cells rfl rfl (fun h => (by cases h)) (new_pv w4 v) (pv_one v) (by unfold maxLen; omega) (by omega) (by have := hkw4.size; simp; omega) ?_
        intro v' w7 hown' hgrow hat
        have hk7 : Kp No w w7 := kp_app hk4 HO4.out hw2 hgrow
        have hkw7 : Kp No w2 w7 := kp_app hkw4 HO4.out (Nat.le_refl _) hgrow
        have hkk : Kp (fun g => (Value.slice al S.length cl).ownBlock = some g) w4 w7 := (Kp.alloc _ _ _).tr (Kp.grown hgrow fun _ hg _ => hg)
        have hrg7 : RangeAt w7 B w2.heap.size ep eo E ((p1, p2) :: S) := (HMORE.out.alloc _).of_block (hgrow.block B (HMORE.out.alloc _).map.lt (fun e => own_notMap HO4.out HMORE.out.map e.symm)) (hgrow.block w2.heap.size (HMORE.out.alloc _).lt (fun e => by
          exact own_notIter HO4.out HMORE.out e.symm))
        have HBX7 := Lib.hid (show ∀ p o, get1 E p = some o → ∃ g v, o = some g ∧ stOf ws p = some v ∧ g < w2.heap.size ∧ BoxP w7 g v from fun p o h => by
          obtain ⟨g, v, h3, h4, h5, h6⟩ := HBX4.out p o h
          refine ⟨g, v, h3, h4, h5, hkk.heap h6 fun e => ?_⟩
          have := (own_ge HO4.out e).1
          omega)
        obtain ⟨g7, c7, rfl, _, _, _⟩ := own_form hown'
        have HO7 := Lib.hid hown'
        have HR7 := Lib.hid hrg7
        clear hown' hgrow hat hkk hrg7 hen
        go_wp2_with fail
        go_roundg (gk - 1)
        case measure => have := HSL.out; omega
        case rel => exact ⟨(p1, p2) :: S, by have := HSL.out; simp; omega, HR7.out, by simpa [HVV.out] using HO7.out, HBX7.out, hk7, hkw7⟩
  · have hne : (chkL l == 0) = false := by rw [beq_eq_false_iff_ne]; exact he
    go_enter Try.func16, Try.ntmps16
    go_wp2_with fail
    refine (Check_any A n ca l w hx hf).mono ?_
    rintro e w1 ⟨rfl, hk1⟩
    have HE := Lib.hid he
    clear he
    go_wp2_with fail
    refine bodyPost_ret (v := .tuple #[.slice none 0 0, .int .i64 (chkL l)]) (by simp [results, Try.results16, go_sem]) rfl ⟨.slice none 0 0, [], rfl, by unfold StRes; rw [if_neg HE.out], ⟨rfl, .inl ⟨rfl, rfl⟩⟩, hk1⟩
end Go.Proofs.Ytjbpdimepckmfaa
