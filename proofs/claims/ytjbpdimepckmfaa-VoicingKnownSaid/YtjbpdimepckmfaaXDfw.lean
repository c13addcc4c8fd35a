/- Chapter 27: Differ: the walk. Printed by gen_dfw.py. -/
import Derived.Test.YtjbpdimepckmfaaXDfwPM
import Derived.Test.YtjbpdimepckmfaaXStW
import Derived.Test.YtjbpdimepckmfaaXMrg
namespace Go.Proofs.Ytjbpdimepckmfaa
open Go.RowKit Go.Kq Go.Sort

theorem orL_both (a b : List Wk) : orL [chkL a, chkL b] = bothE a b := by
  simp only [orL, bothE]
  by_cases h1 : chkL a = 0
  · by_cases h2 : chkL b = 0 <;> simp [h1, h2]
  · simp [h1]
/-- Of a map of what has been done: what the walk wants. -/
theorem st_parts {W : World} {B n₀ : Nat} {ws : List Wk} (h : StAt W B n₀ ws) : ∃ E : List (Pp × Option Nat), MapAt W B ep eo E ∧ (∀ p o, (p, o) ∈ E → ∃ g, o = some g) ∧ (∀ p o, get1 E p = some o → ∃ g v, o = some g ∧ stOf ws p = some v ∧ g < W.heap.size ∧ BoxP W g v) ∧ (∀ p, get1 E p = none → stOf ws p = none) ∧ E.length ≤ ws.length := by
  obtain ⟨E, hm, h1, h2⟩ := h
  refine ⟨E, hm, fun p o hmm => ?_, fun p o ho => ?_, h2, keys_few hm.nodup fun p o h => ?_⟩
  · obtain ⟨g, v, h, _⟩ := h1 p o (get1_mem hm.nodup hmm)
    exact ⟨g, h⟩
  · obtain ⟨g, v, h3, h4, _, h6⟩ := h1 p o ho
    exact ⟨g, v, h3, h4, h6.lt, h6⟩
  · obtain ⟨g, v, _, hv, _⟩ := h1 p o h
    exact ⟨v, hv⟩
theorem done_keys {ws : List Wk} {E : List (Pp × Option Nat)} {S : List Pp} {w : World} {b r : Nat} (hr : RangeAt w b r ep eo E S) (h1 : ∀ p o, get1 E p = some o → ∃ g v, o = some g ∧ stOf ws p = some v) (h2 : ∀ p, get1 E p = none → stOf ws p = none) (hall : ∀ k ∈ keys E, k ∈ S) : ∀ p, p ∈ S ↔ (stOf ws p).isSome = true := fun p => by
  have h3 := range_nodupP hr
  constructor
  · intro hp
    have h4 : get1 E p ≠ none := fun h => (get1_none_iff E p).1 h (h3.2 p hp)
    cases ho : get1 E p with
    | none => exact absurd ho h4
    | some o =>
      obtain ⟨g, v, _, h5⟩ := h1 p o ho
      rw [h5]
      rfl
  · intro hp
    refine hall p ?_
    cases ho : get1 E p with
    | none => rw [h2 p ho] at hp; cases hp
    | some o =>
      have : ¬ get1 E p = none := by rw [ho]; simp
      rw [get1_none_iff] at this
      exact Classical.not_not.1 this
theorem new_two (w : World) (C : Obj) (p : Pp) : ∀ j u, (ppC p)[j]? = some u → ((w.alloc C).alloc (.cells (ppC p).toArray 39)).cell? ((⟨w.heap.size + 1, 0, none⟩ : Addr).add j) = some u := by
  have h := new_cells (e := 39) (w.alloc C) (ppC p) (by rw [pp_len]; unfold maxLen; omega)
  rw [World.size_alloc] at h
  exact h
set_option maxHeartbeats 8000000 in
set_option maxRecDepth 100000 in
theorem Differ_any (A : Option Addr) (n ca : Nat) (a : List Wk) (A' : Option Addr) (n' ca' : Nat) (b : List Wk) (w : World) (hx : RdW w A n a) (hy : RdW w A' n' b) (hf : Fits a) (hf' : Fits b) :
    Calls Try.prog 25 #[.slice A n ca, .slice A' n' ca'] w fun e w' => ∃ v out, e = .returned (.tuple #[v, .int .i64 (bothE a b)]) ∧ DifF a b out ∧ w'.ownsRow w.heap.size 39 2 v out.length (out.flatMap ppC) ∧ Kp No w w' := by
  obtain ⟨j0, hj0, hy0, hy1, hy2⟩ := info_parts info39
  have HX := Lib.hid hx
  have HY := Lib.hid hy
  have hc1 := Check_any A n ca a w hx hf
  have HC2 := Lib.hid (fun w' (k : Kp No w w') => Check_any A' n' ca' b w' (hy.no k) hf')
  have HOR := Lib.hid (orL_both a b)
  clear hx hy hf hf'
  go_enter Try.func25, Try.ntmps25
  go_wp2_with fail
  with_reducible refine hc1.mono ?_
  rintro e w1 ⟨rfl, hk1⟩
  go_wp2_with fail
  with_reducible refine (HC2.out w1 hk1).mono ?_
  rintro e w2 ⟨rfl, hk12⟩
  have hk2 := hk1.tr hk12
  go_wp2_with fail
  refine (orE_any _ 2 2 _ _ (rdE2 _ _ _) (by omega)).mono ?_
  rintro e w3 ⟨rfl, rfl⟩
  rw [HOR.out]
  have hk3 : Kp No w (w2.alloc (.cells #[.int .i64 (chkL a), .int .i64 (chkL b)] 23)) := hk2.tr (Kp.alloc _ _ _)
  generalize (w2.alloc (.cells #[.int .i64 (chkL a), .int .i64 (chkL b)] 23)) = w3 at hk3 ⊢
  clear hk1 hk12 hk2 hc1 HC2 HOR
  by_cases he : bothE a b = 0
  rotate_left
  · have HD := Lib.hid (difF_no he)
    have hne : (bothE a b == 0) = false := by rw [beq_eq_false_iff_ne]; exact he
    have HEE := Lib.hid (show bothE a b = bothE a b from rfl)
    generalize hee : bothE a b = e0 at hne ⊢
    have HE0 := Lib.hid hee
    clear he hee
    go_wp2_with fail
    refine bodyPost_ret (v := .tuple #[.slice none 0 0, .int .i64 e0]) (by simp [results, Try.results25, go_sem]) rfl ⟨.slice none 0 0, [], by rw [HE0.out], HD.out, ⟨rfl, .inl ⟨rfl, rfl⟩⟩, hk3⟩
  obtain ⟨ra, rb⟩ := both_zero he
  have HRA := Lib.hid (rec_of ra)
  have HRB := Lib.hid (rec_of rb)
  have HD := Lib.hid (fun out (h : DifR (cws a) (cws b) out) => difF_yes he h)
  have HE0 := Lib.hid he
  have hca := cws_few HRA.out
  have hcb := cws_few HRB.out
  rw [he]
  clear he ra rb
  go_wp2_with fail
  with_reducible refine (state_any A n ca a w3 HRA.out (HX.out.no hk3)).mono ?_
  rintro e w4 ⟨B, rfl, hst, hB, hk34⟩
  have hk4 := hk3.tr hk34
  replace hst : StAt w4 B w3.heap.size (cws a) := hst
  have HSTA := Lib.hid hst
  clear hst
  go_wp2_with fail
  with_reducible refine (state_any A' n' ca' b w4 HRB.out (HY.out.no hk4)).mono ?_
  rintro e w5 ⟨C, rfl, hst, hC, hk45⟩
  have hk5 := hk4.tr hk45
  replace hst : StAt w5 C w4.heap.size (cws b) := hst
  obtain ⟨E1, hm1, hall1, hg1, hn1, hl1⟩ := st_parts (HSTA.out.no hk45)
  obtain ⟨E2, hm2, hall2, hg2, hn2, hl2⟩ := st_parts hst
  have HALL1 := Lib.hid hall1
  have HALL2 := Lib.hid hall2
  have HG1 := Lib.hid hg1
  have HG2 := Lib.hid hg2
  have HN1 := Lib.hid hn1
  have HN2 := Lib.hid hn2
  have HM1 := Lib.hid hm1
  have HM2 := Lib.hid hm2
  have HK5 := Lib.hid hk5
  generalize cws a = wa at HG1 HN1 hca hl1 HD
  generalize cws b = wb at HG2 HN2 hcb hl2 HD
  have hBl := hm1.lt
  have hCl := hm2.lt
  clear hm1 hm2 hall1 hall2 hg1 hg2 hn1 hn2 hst hk3 hk34 hk4 hk45 hk5 HSTA HX HY hB hC HRA HRB
  go_wp2_with (at_range; refine wpL_range _ rfl _ _ rfl Try.underlying79 HM1.out rfl ?_; intro w6 hr1 hgr1 hs1)
  go_frame
  have hk56 : Kp No w5 w6 := Kp.grown_none hgr1
  have HR1 := Lib.hid hr1
  clear hr1 hgr1 hs1
  go_loopg [9] E1.length (fun g vo wr => ∃ S : List Pp, S.length + g = E1.length ∧ RangeAt wr B w5.heap.size ep eo E1 S ∧ wr.ownsRow w5.heap.size 39 2 vo (dlA wa wb S).length ((dlA wa wb S).flatMap ppC) ∧ Kp No w5 wr)
  case atStart => exact ⟨[], by simp, HR1.out, ⟨rfl, .inl ⟨rfl, rfl⟩⟩, hk56⟩
  case round =>
    obtain ⟨S, hSl, hrg, how, hkp⟩ := hrel
    have HSL := Lib.hid hSl
    have HOW := Lib.hid how
    have hdl := dlA_len wa wb S
    obtain ⟨M, hM⟩ : ∃ M, M = (dlA wa wb S).length := ⟨_, rfl⟩
    rw [← hM] at HOW hdl
    have HMM := Lib.hid hM
    obtain ⟨al, cl, rfl, _, _, hal⟩ := own_form HOW.out
    have HAL := Lib.hid hal
    clear hSl how hM hal hk56
    go_wp2_with (at_next; refine stop_in ?_)
    refine stop_out ?_
    refine wpL_next_st _ HALL1.out rfl _ rfl pipeOk hrg rfl (fun hall => ?_) (fun p1 p2 g w7 hmem hnS hrng hgr hsz4 hen => ?_)
    · have HMS := Lib.hid (done_keys hrg (fun p o h => by obtain ⟨g, v, h3, h4, _⟩ := HG1.out p o h; exact ⟨g, v, h3, h4⟩) HN1.out hall)
      have HNS := Lib.hid (range_nodupP hrg).1
      have hSle : S.length ≤ E1.length := by have := HSL.out; omega
      have HMC := Lib.hid (HM2.out.of_block (hkp.block C hCl id))
      obtain ⟨wo, rfl⟩ : ∃ wo : World, wo = wr := ⟨_, rfl⟩
      clear hrg hall HR1
      go_wp2_with (at_range; refine wpL_range _ rfl _ _ rfl Try.underlying79 HMC.out rfl ?_; intro w8 hr2 hgr2 hs2)
      go_frame
      have hk68 : Kp No wo w8 := Kp.grown_none hgr2
      have HR2 := Lib.hid hr2
      have HO8 := Lib.hid (hk68.owns HOW.out fun _ _ h => h)
      have hk58 := hkp.tr hk68
      clear hr2 hgr2 hs2 hk68
      go_loopg [9] E2.length (fun g vo wr => ∃ T : List Pp, T.length + g = E2.length ∧ RangeAt wr C wo.heap.size ep eo E2 T ∧ wr.ownsRow w5.heap.size 39 2 vo (M + (dlB wa T).length) ((dlA wa wb S ++ dlB wa T).flatMap ppC) ∧ Kp No w5 wr)
      case atStart => exact ⟨[], by simp, HR2.out, by simpa [dlB] using HO8.out, hk58⟩
      case round =>
        obtain ⟨T, hTl, hrg, how, hkq⟩ := hrel
        have HTL := Lib.hid hTl
        have HOW2 := Lib.hid how
        have hdl2 := dlB_len wa T
        obtain ⟨N, hN⟩ : ∃ N, N = (dlB wa T).length := ⟨_, rfl⟩
        rw [← hN] at HOW2 hdl2
        have HNN := Lib.hid hN
        obtain ⟨al2, cl2, rfl, hcap, _, hal⟩ := own_form HOW2.out
        have HAL2 := Lib.hid hal
        clear hTl how hN hal hk58 HO8
        go_wp2_with (at_next; refine stop_in ?_)
        refine stop_out ?_
        refine wpL_next_st _ HALL2.out rfl _ rfl pipeOk hrg rfl (fun hall => ?_) (fun p1 p2 g w9 hmem hnS hrng hgr hsz4 hen => ?_)
        · have hMT := done_keys hrg (fun p o h => by obtain ⟨g, v, h3, h4, _⟩ := HG2.out p o h; exact ⟨g, v, h3, h4⟩) HN2.out hall
          have hNT := (range_nodupP hrg).1
          have HQ := Lib.hid (fun (l' : List Pp) (hp : l'.Perm (dlA wa wb S ++ dlB wa T)) (hs : l'.Pairwise fun x y => ltP y x = false) => HD.out l' (dif_sorted HNS.out hNT HMS.out hMT hp hs))
          have HVL := Lib.hid (show (dlA wa wb S ++ dlB wa T).length = M + N by rw [List.length_append, HMM.out, HNN.out])
          have HK9 := Lib.hid (HK5.out.tr hkq)
          have hMN : M + N ≤ 1000 := by have := HSL.out; have := HTL.out; omega
          have hw5 := HK5.out.size
          generalize dlA wa wb S ++ dlB wa T = vs at HOW2 HQ HVL
          clear hMT hNT hrg hall hdl hdl2 HMM HNN HSL HTL
          generalize M + N = K at HOW2 HVL hMN HAL2 hcap ⊢
          by_cases h0 : K = 0
          · have hs := AnyF.slices_SortFunc_none { sortP with } al2 cl2 (.func (.func 54) #[] #[]) wr
            change Calls Try.prog 61 _ _ _ at hs
            subst h0
            have hnil := List.length_eq_zero_iff.1 HVL.out
            subst hnil
            go_wp2_with fail
            refine hs.mono ?_
            rintro e w' ⟨rfl, rfl⟩
            go_wp2_with fail
            refine bodyPost_ret (v := .tuple #[.slice al2 0 cl2, .int .i64 0]) (by simp [results, Try.results25, go_sem]) rfl ⟨.slice al2 0 cl2, [], by rw [HE0.out], HQ.out _ (List.Perm.refl _) List.Pairwise.nil, own_mono HOW2.out hw5, HK9.out⟩
          · obtain ⟨g, rfl⟩ := HAL2.out (by omega)
            have hgl := own_ge HOW2.out (g := g) rfl
            have hs := AnyQ.slices_SortFunc sortP 2 Try.isAgg39 Try.sizeOf39 ppC pp_len pp_one cmpP swoP 54 #[] g 0 cl2 vs.toArray wr (enters_of Try.func54 (by kernel_rfl) rfl) (cmpLaysP g 0 _ wr) (own_holdsK pp_len HOW2.out) hgl.2 (by rw [List.size_toArray, HVL.out]; omega)
            change Calls Try.prog 61 _ _ _ at hs
            simp only [List.size_toArray, HVL.out] at hs
            clear h0
            go_wp2_with fail
            refine hs.mono ?_
            rintro e w' ⟨rfl, d', m, os, hpi, hsi, rfl⟩
            have hP2 := perm_of_permIn (l := vs) (by rw [List.size_toArray, HVL.out]; exact hpi)
            have hsz' : d'.size = K := by have := hP2.length_eq; rw [HVL.out] at this; simpa using this
            have hpw := pairwise_of_sortedIn hsz' hsi
            obtain ⟨l'⟩ := d'
            have hl2' : l'.length = K := by simpa using hsz'
            have ho2 := own_sortedK (ts := l') (m := m) (os := os) pp_len HOW2.out (by rw [hl2', HVL.out])
            have hk2' := kp_sortedK (w := wr) (g := g) (m := m) (os := os) pp_len l'
            have HO2 := Lib.hid ho2
            have HK2 := Lib.hid (HK9.out.trans hk2' (fun k hk h => absurd hk (by unfold Kq.One at h; omega)) : Kp No w _)
            have HE2 := Lib.hid (HQ.out l' hP2 (hpw.imp fun {x y} h => by rwa [ltPP] at h))
            have HL2 := Lib.hid hl2'
            clear ho2 hk2' hpi hsi hP2 hpw hs hsz' hl2'
            generalize sortWorldK ppC 2 wr g 0 m l'.toArray os = w3' at *
            go_wp2_with fail
            refine bodyPost_ret (v := .tuple #[.slice (some ⟨g, 0, none⟩) K cl2, .int .i64 0]) (by simp [results, Try.results25, go_sem]) rfl ⟨.slice (some ⟨g, 0, none⟩) K cl2, l', by rw [HE0.out], HE2.out, by rw [HL2.out]; exact own_mono HO2.out hw5, HK2.out⟩
        · have hkg : Kp (Kq.One wo.heap.size) wr w9 := Kp.grown hgr fun k hk _ => by injection hk with hk; exact hk.symm
          have hwo := hkp.size
          have hkq9 : Kp No w5 w9 := hkq.trans hkg fun k hk e => by have e : k = wo.heap.size := e; omega
          have HRN := Lib.hid hrng
          have HO9 := Lib.hid (hkg.owns HOW2.out fun g hg e => by
            have e : g = wo.heap.size := e
            exact own_notIter HOW2.out hrg (by rw [hg, e]))
          have hlT := nodup_lenP _ (keys E2) (range_nodupP hrng).1 (range_nodupP hrng).2
          rw [show (keys E2).length = E2.length by simp [keys], List.length_cons] at hlT
          have hka : Kp No w9 (w9.alloc (.cells #[.int .i64 p1, .int .i64 p2] 39)) := Kp.alloc _ _ _
          have hlk := (HM1.out.of_block ((hkq9.tr hka).block B hBl id)).run_lookup pipeOk Try.underlying79 (zeroPtr _) (p1, p2) false
          simp only [ep] at hlk
          have hgo : ∀ o, get1 E1 (p1, p2) = some o → ∃ g v, o = some g ∧ stOf wa (p1, p2) = some v := fun o h => by obtain ⟨g, v, h3, h4, _⟩ := HG1.out _ o h; exact ⟨g, v, h3, h4⟩
          have hno := HN1.out (p1, p2)
          have HDC := Lib.hid (dlB_cons wa (p1, p2) T)
          clear hrg hmem hnS hgr hsz4 hkg hrng
          cases hgt : get1 E1 (p1, p2) with
          | none =>
            have HS := Lib.hid (show dlB wa ((p1, p2) :: T) = dlB wa T ++ [(p1, p2)] by rw [HDC.out, hno hgt]; rfl)
            rw [hgt] at hlk
            simp only [Option.getD_none, eo] at hlk
            clear hgt hgo hno
            go_wp2_with (at_builtin; refine stop_in ?_)
            refine stop_out ?_
            refine wpL_append_any rfl _ _ 47 rfl w5.heap.size 39 j0 (.agg #[.int .i64 0, .int .i64 0]) 2 16 Try.underlying47 hj0 hy0 hy1 hy2 rfl (by decide) (.slice al2 (M + N) cl2) (M + N) _ rfl ((HO9.out.alloc _).alloc (.cells (ppC (p1, p2)).toArray 39)) (some ⟨w9.heap.size + 1, 0, none⟩) 1 1 (ppC (p1, p2)) rfl rfl (fun h => (by cases h)) (fun ad had => by cases had; exact new_two w9 _ (p1, p2)) (pp_one _) (by unfold maxLen; omega) (by omega) (by have := hkq9.size; simp; omega) ?_
            intro v' w11 hown' hgrow hat
            have hk11 : Kp No w5 w11 := kp_app (hkq9.tr (Kp.alloc _ _ _)) (HO9.out.alloc _) (Nat.le_refl _) hgrow
            have hkk : Kp (fun g => (Value.slice al2 (M + N) cl2).ownBlock = some g) w9 w11 := ((Kp.alloc _ _ _).tr (Kp.alloc _ _ _)).tr (Kp.grown hgrow fun _ hg _ => hg)
            have HR11 := Lib.hid (RangeAt.kpS HRN.out hkk (own_notMap HO9.out HRN.out.map) (own_notIter HO9.out HRN.out))
            obtain ⟨a11, c11, rfl, _, _, _⟩ := own_form hown'
            have HO11 := Lib.hid hown'
            clear hown' hgrow hat hkk hen
            go_wp2_with fail
            go_roundg (gk - 1)
            case measure => have := HTL.out; omega
            case rel =>
              refine ⟨(p1, p2) :: T, by have := HTL.out; simp; omega, HR11.out, ?_, hk11⟩
              rw [HS.out, List.length_append, ← HNN.out, ← List.append_assoc, List.flatMap_append]
              simpa [Nat.add_assoc] using HO11.out
          | some o =>
            obtain ⟨g3, v3, rfl, hv3⟩ := hgo o hgt
            have HS := Lib.hid (show dlB wa ((p1, p2) :: T) = dlB wa T by rw [HDC.out, hv3]; simp)
            rw [hgt] at hlk
            simp only [Option.getD_some, eo] at hlk
            clear hgt hgo hno hv3
            go_wp2_with fail
            go_roundg (gk - 1)
            case measure => have := HTL.out; omega
            case rel => exact ⟨(p1, p2) :: T, by have := HTL.out; simp; omega, HRN.out.alloc _, by rw [HS.out, ← HNN.out]; exact HO9.out.alloc _, hkq9.tr (Kp.alloc _ _ _)⟩
    · have hkg : Kp (Kq.One w5.heap.size) wr w7 := Kp.grown hgr fun k hk _ => by injection hk with hk; exact hk.symm
      have hkp7 : Kp No w5 w7 := hkp.trans hkg fun k hk e => by have e : k = w5.heap.size := e; omega
      have HRN7 := Lib.hid hrng
      have HO7 := Lib.hid (hkg.owns HOW.out fun g hg e => by
        have e : g = w5.heap.size := e
        exact own_notIter HOW.out hrg (by rw [hg, e]))
      have hlS := nodup_lenP _ (keys E1) (range_nodupP hrng).1 (range_nodupP hrng).2
      rw [show (keys E1).length = E1.length by simp [keys], List.length_cons] at hlS
      obtain ⟨g', v1, hgg, hv1, _, hbv1⟩ := HG1.out _ _ (get1_mem HM1.out.nodup hmem)
      cases hgg
      have HV1 := Lib.hid hv1
      have HBV1 := Lib.hid hbv1
      have hka : Kp No w7 (w7.alloc (.cells #[.int .i64 p1, .int .i64 p2] 39)) := Kp.alloc _ _ _
      have hlk := (HM2.out.of_block ((hkp7.tr hka).block C hCl id)).run_lookup pipeOk Try.underlying79 (zeroPtr _) (p1, p2) false
      simp only [ep] at hlk
      have hgo := HG2.out (p1, p2)
      have hno := HN2.out (p1, p2)
      have HDC := Lib.hid (dlA_cons wa wb (p1, p2) S)
      have hbx8 : (w7.alloc (.cells #[.int .i64 p1, .int .i64 p2] 39)).heap[w7.heap.size]? = some (.cells #[.int .i64 p1, .int .i64 p2] 39 (0, 0)) := heap_alloc_new _ _
      clear hrg hmem hnS hgr hsz4 hkg hrng hv1 hbv1
      cases hgt : get1 E2 (p1, p2) with
      | none =>
        have HO2 := Lib.hid (hno hgt)
        rw [hgt] at hlk
        simp only [Option.getD_none, eo] at hlk
        clear hgt hgo hno
        go_wp2_with fail
        have hk78 := hka
        generalize w7.alloc (.cells #[.int .i64 p1, .int .i64 p2] 39) = w8 at hk78 hbx8 ⊢
        clear hka hlk hen
        go_quiet (fail)
        have hk79 := hk78.tr (Kp.drewN No w8 nq)
        have hk9 := hkp7.tr hk79
        have HRN := Lib.hid (RangeAt.kpS HRN7.out hk79 id id)
        have HO9 := Lib.hid (hk79.owns HO7.out fun _ _ h => h)
        have hbx9 : (w8.drewN nq).heap[w7.heap.size]? = some (.cells #[.int .i64 p1, .int .i64 p2] 39 (0, 0)) := hbx8
        obtain ⟨gb, hgb⟩ : ∃ gb, gb = w7.heap.size := ⟨_, rfl⟩
        rw [← hgb] at hbx9 ⊢
        generalize w8.drewN nq = w9 at hk9 HRN HO9 hbx9 ⊢
        have x0 : w9.cell? ⟨gb, 0, none⟩ = some (.int .i64 p1) := by rw [cell_of_row _ _ _ _ _ _ hbx9]; rfl
        have x1 : w9.cell? ⟨gb, 1, none⟩ = some (.int .i64 p2) := by rw [cell_of_row _ _ _ _ _ _ hbx9]; rfl
        clear hbx8 hbx9 hgb hk79 hk78 HRN7 HO7 hkp7
        have HS := Lib.hid (show dlA wa wb ((p1, p2) :: S) = dlA wa wb S ++ [(p1, p2)] by rw [HDC.out, HV1.out, HO2.out]; first | rfl | (unfold difO; rw [HQ.out]; rfl))
        go_wp2_with (at_builtin; refine stop_in ?_)
        refine stop_out ?_
        refine wpL_append_any rfl _ _ 47 rfl w5.heap.size 39 j0 (.agg #[.int .i64 0, .int .i64 0]) 2 16 Try.underlying47 hj0 hy0 hy1 hy2 rfl (by decide) (.slice al M cl) M _ rfl (HO9.out.alloc (.cells (ppC (p1, p2)).toArray 39)) (some ⟨w9.heap.size, 0, none⟩) 1 1 (ppC (p1, p2)) rfl rfl (fun h => (by cases h)) (fun ad had => by cases had; exact new_cells w9 (ppC (p1, p2)) (by rw [pp_len]; unfold maxLen; omega)) (pp_one _) (by unfold maxLen; omega) (by omega) (by have := hk9.size; simp; omega) ?_
        intro v' w11 hown' hgrow hat
        have hk11 : Kp No w5 w11 := kp_app hk9 HO9.out (Nat.le_refl _) hgrow
        have hkk : Kp (fun g => (Value.slice al M cl).ownBlock = some g) w9 w11 := (Kp.alloc _ _ _).tr (Kp.grown hgrow fun _ hg _ => hg)
        have HR11 := Lib.hid (RangeAt.kpS HRN.out hkk (own_notMap HO9.out HRN.out.map) (own_notIter HO9.out HRN.out))
        obtain ⟨a11, c11, rfl, _, _, _⟩ := own_form hown'
        have HO11 := Lib.hid hown'
        clear hown' hgrow hat hkk
        go_wp2_with fail
        go_roundg (gk - 1)
        case measure => have := HSL.out; omega
        case rel =>
          refine ⟨(p1, p2) :: S, by have := HSL.out; simp; omega, HR11.out, ?_, hk11⟩
          rw [HS.out, List.length_append, ← HMM.out, List.flatMap_append]
          simpa using HO11.out
      | some o =>
        obtain ⟨g2, v2, rfl, hv2, _, hbv2⟩ := hgo o hgt
        have HO2 := Lib.hid hv2
        have HBV2 := Lib.hid hbv2
        rw [hgt] at hlk
        simp only [Option.getD_some, eo] at hlk
        have HQE := Lib.hid (show difO (some v1) (some v2) = !eqV v1 v2 from rfl)
        have HE := fun w' => pv_equal w' v1 v2
        simp only [Pv.val] at HE
        clear hgt hgo hno hv2 hbv2
        go_wp2_with fail
        have hk78 := hka
        have HB81 := Lib.hid ((hkp7.tr hka).heap HBV1.out id : BoxP (w7.alloc (.cells #[.int .i64 p1, .int .i64 p2] 39)) g v1)
        have HB82 := Lib.hid ((hkp7.tr hka).heap HBV2.out id : BoxP (w7.alloc (.cells #[.int .i64 p1, .int .i64 p2] 39)) g2 v2)
        generalize w7.alloc (.cells #[.int .i64 p1, .int .i64 p2] 39) = w8 at hk78 hbx8 HB81 HB82 ⊢
        obtain ⟨d0, d1, d2, d3, d4, d5, d6, d7, d8, d9, d10, d11⟩ := PvAt.of (boxP_all HB81.out)
        simp only [Nat.zero_add] at d1 d2 d3 d4 d5 d6 d7 d8 d9 d10 d11
        obtain ⟨s0, s1, s2, s3, s4, s5, s6, s7, s8, s9, s10, s11⟩ := PvAt.of (boxP_all HB82.out)
        simp only [Nat.zero_add] at s1 s2 s3 s4 s5 s6 s7 s8 s9 s10 s11
        clear hka hlk hen
        cases hq : eqV v1 v2 with
        | true =>
          rw [hq] at HE
          have HS := Lib.hid (show dlA wa wb ((p1, p2) :: S) = dlA wa wb S by rw [HDC.out, HV1.out, HO2.out, HQE.out, hq]; simp)
          clear hq
          go_quiet (fail)
          have hk79 := hk78.tr (Kp.drewN No w8 nq)
          have hk9 := hkp7.tr hk79
          have HRN := Lib.hid (RangeAt.kpS HRN7.out hk79 id id)
          have HO9 := Lib.hid (hk79.owns HO7.out fun _ _ h => h)
          have hbx9 : (w8.drewN nq).heap[w7.heap.size]? = some (.cells #[.int .i64 p1, .int .i64 p2] 39 (0, 0)) := hbx8
          obtain ⟨gb, hgb⟩ : ∃ gb, gb = w7.heap.size := ⟨_, rfl⟩
          rw [← hgb] at hbx9 ⊢
          generalize w8.drewN nq = w9 at hk9 HRN HO9 hbx9 ⊢
          have x0 : w9.cell? ⟨gb, 0, none⟩ = some (.int .i64 p1) := by rw [cell_of_row _ _ _ _ _ _ hbx9]; rfl
          have x1 : w9.cell? ⟨gb, 1, none⟩ = some (.int .i64 p2) := by rw [cell_of_row _ _ _ _ _ _ hbx9]; rfl
          clear hbx8 hbx9 hgb hk79 hk78 HRN7 HO7 hkp7
          go_wp2_with fail
          go_roundg (gk - 1)
          case measure => have := HSL.out; omega
          case rel => exact ⟨(p1, p2) :: S, by have := HSL.out; simp; omega, HRN.out, by rw [HS.out, ← HMM.out]; exact HO9.out, hk9⟩
        | false =>
          rw [hq] at HE
          have HQ := Lib.hid hq
          clear hq
          go_quiet (fail)
          clear d0 d1 d2 d3 d4 d5 d6 d7 d8 d9 d10 d11 s0 s1 s2 s3 s4 s5 s6 s7 s8 s9 s10 s11
          have hk79 := hk78.tr (Kp.drewN No w8 nq)
          have hk9 := hkp7.tr hk79
          have HRN := Lib.hid (RangeAt.kpS HRN7.out hk79 id id)
          have HO9 := Lib.hid (hk79.owns HO7.out fun _ _ h => h)
          have hbx9 : (w8.drewN nq).heap[w7.heap.size]? = some (.cells #[.int .i64 p1, .int .i64 p2] 39 (0, 0)) := hbx8
          obtain ⟨gb, hgb⟩ : ∃ gb, gb = w7.heap.size := ⟨_, rfl⟩
          rw [← hgb] at hbx9 ⊢
          generalize w8.drewN nq = w9 at hk9 HRN HO9 hbx9 ⊢
          have x0 : w9.cell? ⟨gb, 0, none⟩ = some (.int .i64 p1) := by rw [cell_of_row _ _ _ _ _ _ hbx9]; rfl
          have x1 : w9.cell? ⟨gb, 1, none⟩ = some (.int .i64 p2) := by rw [cell_of_row _ _ _ _ _ _ hbx9]; rfl
          clear hbx8 hbx9 hgb hk79 hk78 HRN7 HO7 hkp7
          have HS := Lib.hid (show dlA wa wb ((p1, p2) :: S) = dlA wa wb S ++ [(p1, p2)] by rw [HDC.out, HV1.out, HO2.out]; rw [HQE.out, HQ.out]; rfl)
          go_wp2_with (at_builtin; refine stop_in ?_)
          refine stop_out ?_
          refine wpL_append_any rfl _ _ 47 rfl w5.heap.size 39 j0 (.agg #[.int .i64 0, .int .i64 0]) 2 16 Try.underlying47 hj0 hy0 hy1 hy2 rfl (by decide) (.slice al M cl) M _ rfl (HO9.out.alloc (.cells (ppC (p1, p2)).toArray 39)) (some ⟨w9.heap.size, 0, none⟩) 1 1 (ppC (p1, p2)) rfl rfl (fun h => (by cases h)) (fun ad had => by cases had; exact new_cells w9 (ppC (p1, p2)) (by rw [pp_len]; unfold maxLen; omega)) (pp_one _) (by unfold maxLen; omega) (by omega) (by have := hk9.size; simp; omega) ?_
          intro v' w11 hown' hgrow hat
          have hk11 : Kp No w5 w11 := kp_app hk9 HO9.out (Nat.le_refl _) hgrow
          have hkk : Kp (fun g => (Value.slice al M cl).ownBlock = some g) w9 w11 := (Kp.alloc _ _ _).tr (Kp.grown hgrow fun _ hg _ => hg)
          have HR11 := Lib.hid (RangeAt.kpS HRN.out hkk (own_notMap HO9.out HRN.out.map) (own_notIter HO9.out HRN.out))
          obtain ⟨a11, c11, rfl, _, _, _⟩ := own_form hown'
          have HO11 := Lib.hid hown'
          clear hown' hgrow hat hkk
          go_wp2_with fail
          go_roundg (gk - 1)
          case measure => have := HSL.out; omega
          case rel =>
            refine ⟨(p1, p2) :: S, by have := HSL.out; simp; omega, HR11.out, ?_, hk11⟩
            rw [HS.out, List.length_append, ← HMM.out, List.flatMap_append]
            simpa using HO11.out
end Go.Proofs.Ytjbpdimepckmfaa
