/- Chapter 27: the reference's find: the walk. · Chapter 27: the reference's Merge: the walk. -/
import Derived.Test.YtjbpdimepckmfaaXMrgP
import Derived.Test.YtjbpdimepckmfaaXPut
import Derived.Test.YtjbpdimepckmfaaXRch
namespace Go.Proofs.Ytjbpdimepckmfaa
open Go.RowKit Go.Kq

def findI (l : List Wk) (x : Nm) : Int := match findN l x with
  | some k => (k : Int)
  | none => -1
theorem findI_at {l : List Wk} {i : Nat} {u : Wk} {x : Nm} (hu : l[i]? = some u) (hno : findN (l.take i) x = none) (he : u.nm = x) : findI l x = i := by
  have h : findN l x = some i := by
    unfold findN
    rw [List.findIdx?_eq_some_iff_getElem]
    obtain ⟨hi, hg⟩ := List.getElem?_eq_some_iff.1 hu
    refine ⟨hi, by rw [hg]; simpa using he, fun j hj => ?_⟩
    have h2 := findN_none.1 hno (l[j]'(by omega)) (List.mem_of_getElem? (i := j) (by rw [List.getElem?_take_of_lt hj, List.getElem?_eq_getElem (by omega)]))
    simpa using h2
  unfold findI
  rw [h]
theorem findN_take_succ {l : List Wk} {i : Nat} {u : Wk} {x : Nm} (hu : l[i]? = some u) (hno : findN (l.take i) x = none) (he : u.nm ≠ x) : findN (l.take (i + 1)) x = none := by
  refine findN_none.2 fun v hv => ?_
  rw [List.take_add_one, hu] at hv
  rcases List.mem_append.1 hv with hv | hv
  · exact findN_none.1 hno v hv
  · simp at hv
    subst hv
    exact he
set_option maxHeartbeats 1000000 in
theorem rfind_any (A : Option Addr) (n ca : Nat) (l : List Wk) (a b : Int) (w : World) (hx : RdW w A n l) (hn : n ≤ 1000) :
    Calls Try.prog 57 #[.slice A n ca, .int .i64 a, .int .i64 b] w fun e w' => e = .returned (.int .i64 (findI l (a, b))) ∧ w' = w := by
  have HL := Lib.hid hx.1
  go_enter Try.func57, Try.ntmps57
  go_wp2_with fail
  go_loop [7] (fun vi => ∃ i : Nat, i ≤ n ∧ vi = .int .i64 i ∧ findN (l.take i) (a, b) = none) (fun vi => n - (intOf vi).toNat)
  case atStart => exact ⟨0, by omega, rfl, rfl⟩
  case round =>
    obtain ⟨i, hi, rfl, hno⟩ := hrel
    have HN := Lib.hid hno
    clear hno
    by_cases hlt : i < n
    · obtain ⟨u, hu⟩ : ∃ u, l[i]? = some u := ⟨_, List.getElem?_eq_getElem (by rw [HL.out]; omega)⟩
      obtain ⟨bu, ou, rfl, _, c0, c1, _⟩ := RdW.at_ hx hu
      have HU := Lib.hid hu
      clear hu
      by_cases e0 : u.wk = a
      · have q0 : (u.wk == a) = true := by rw [beq_iff_eq]; exact e0
        by_cases e1 : u.num = b
        · have q1 : (u.num == b) = true := by rw [beq_iff_eq]; exact e1
          have HF := Lib.hid (findI_at HU.out HN.out (by unfold Wk.nm; rw [e0, e1]))
          clear e0 e1
          go_wp2
          go_ret
          exact ⟨ret_i64 HF.out.symm, rfl⟩
        · have q1 : (u.num == b) = false := by rw [beq_eq_false_iff_ne]; exact e1
          have HF := Lib.hid (findN_take_succ (x := (a, b)) HU.out HN.out (by unfold Wk.nm; simp [e1]))
          clear e0 e1
          go_wp2
          go_round
          case rel => exact ⟨i + 1, by omega, by go_num, HF.out⟩
          case measure => simp [intOf]; omega
      · have q0 : (u.wk == a) = false := by rw [beq_eq_false_iff_ne]; exact e0
        have HF := Lib.hid (findN_take_succ (x := (a, b)) HU.out HN.out (by unfold Wk.nm; simp [e0]))
        clear e0
        go_wp2
        go_round
        case rel => exact ⟨i + 1, by omega, by go_num, HF.out⟩
        case measure => simp [intOf]; omega
    · obtain rfl : i = n := by omega
      have HF := Lib.hid (show findI l (a, b) = -1 by have h := HN.out; rw [List.take_of_length_le (by rw [HL.out]; omega)] at h; unfold findI; rw [h])
      go_wp2
      go_ret
      exact ⟨ret_i64 HF.out.symm, rfl⟩
end Go.Proofs.Ytjbpdimepckmfaa

namespace Go.Proofs.Ytjbpdimepckmfaa
open Go.RowKit Go.Kq

/-- The error of two records. -/
def bothE (a b : List Wk) : Int := if chkL a ≠ 0 then chkL a else chkL b
theorem mrgF_both (a b : List Wk) : mrgF a b = if bothE a b ≠ 0 then bothE a b else mrgE a b := by
  unfold mrgF bothE
  by_cases h1 : chkL a = 0
  · simp [h1]
  · simp [h1]
theorem both_zero {a b : List Wk} (h : bothE a b = 0) : chkL a = 0 ∧ chkL b = 0 := by
  unfold bothE at h
  by_cases h1 : chkL a = 0
  · simp [h1] at h
    exact ⟨h1, h⟩
  · simp [h1] at h
set_option maxHeartbeats 1000000 in
theorem rboth_any (A : Option Addr) (n ca : Nat) (a : List Wk) (A' : Option Addr) (n' ca' : Nat) (b : List Wk) (w : World) (hx : RdW w A n a) (hy : RdW w A' n' b) (hf : Fits a) (hf' : Fits b) (hca : n ≤ ca) (hca' : n' ≤ ca') :
    Calls Try.prog 62 #[.slice A n ca, .slice A' n' ca'] w fun e w' => e = .returned (.int .i64 (bothE a b)) ∧ Kp No w w' := by
  have HY := Lib.hid hy
  have hc1 := rCheck_any A n ca a w hx hf hca
  have hc2 := fun w1 (k : Kp No w w1) => rCheck_any A' n' ca' b w1 (HY.out.no k) hf' hca'
  have HC2 := Lib.hid hc2
  have HE := Lib.hid (show bothE a b = if chkL a ≠ 0 then chkL a else chkL b from rfl)
  clear hx hy hf hf' hc2
  generalize bothE a b = E at HE
  generalize chkL a = x at hc1 HE
  by_cases h1 : x = 0
  · subst h1
    obtain rfl : E = chkL b := by rw [HE.out]; simp
    clear HE
    go_enter Try.func62, Try.ntmps62
    go_wp2_with fail
    with_reducible refine hc1.mono ?_
    rintro e w1 ⟨rfl, hk1⟩
    go_wp2_with fail
    with_reducible refine (HC2.out w1 hk1).mono ?_
    rintro e w2 ⟨rfl, hk2⟩
    go_wp2_with fail
    go_ret
    exact ⟨rfl, hk1.tr hk2⟩
  · have q1 : (x != 0) = true := by rw [bne_iff_ne]; exact h1
    obtain rfl : E = x := by rw [HE.out, if_pos h1]
    clear HE h1
    go_enter Try.func62, Try.ntmps62
    go_wp2_with fail
    with_reducible refine hc1.mono ?_
    rintro e w1 ⟨rfl, hk1⟩
    go_wp2_with fail
    go_ret
    exact ⟨rfl, hk1⟩
theorem miss_takeR {a b : List Wk} {k : Nat} {v : Wk} (hv : b[k]? = some v) : miss a (b.take (k + 1)) = miss a (b.take k) ++ if (findN a v.nm).isNone then [v] else [] := by
  unfold miss
  rw [List.take_add_one, hv, Option.toList_some, List.filter_append]
  by_cases h : (findN a v.nm).isNone <;> simp [h]
theorem own_nilR {w : World} {base : Nat} : w.ownsRow base 41 11 (.slice none 0 0) ([] : List Wk).length (([] : List Wk).flatMap Wk.cells) := ⟨rfl, .inl ⟨rfl, rfl⟩⟩
theorem srtN_of {l : List Wk} (h : SrtW l) : SrtN l := h.imp fun {x y} h => by
  rw [ltW_iff] at h
  rw [ltW_no]
  omega
set_option maxHeartbeats 4000000 in
set_option maxRecDepth 100000 in
theorem rMerge_any (A : Option Addr) (n ca : Nat) (a : List Wk) (A' : Option Addr) (n' ca' : Nat) (b : List Wk) (w : World) (hx : RdW w A n a) (hy : RdW w A' n' b) (hf : Fits a) (hf' : Fits b) (hA : A = none → n = 0 ∧ ca = 0) (hca : n ≤ ca) (hca' : n' ≤ ca') :
    Calls Try.prog 28 #[.slice A n ca, .slice A' n' ca'] w fun e w' => ∃ v, e = .returned (.tuple #[v, .int .i64 (mrgF a b)]) ∧ w'.ownsRow w.heap.size 41 11 v (mrgV a b).length ((mrgV a b).flatMap Wk.cells) ∧ Kp No w w' := by
  have hB := rboth_any A n ca a A' n' ca' b w hx hy hf hf' hca hca'
  have HL := Lib.hid hx.1
  have HL' := Lib.hid hy.1
  have HX := Lib.hid hx
  have HY := Lib.hid hy
  obtain ⟨i0, hi0, hz0, hz1, hz2⟩ := info_parts info41
  have HA := Lib.hid hA
  have HF := Lib.hid (mrgF_both a b)
  clear hA hx hy hf hf'
  by_cases he : bothE a b = 0
  rotate_left
  · have HFE : Hid (mrgF a b = bothE a b) := Lib.hid (by rw [HF.out, if_pos he])
    have HV := Lib.hid (show mrgV a b = [] by unfold mrgV; rw [HFE.out, if_neg he])
    rw [HFE.out]
    generalize bothE a b = e0 at he hB
    have hne : (e0 != 0) = true := by rw [bne_iff_ne]; exact he
    clear HF he HFE
    go_enter Try.func28, Try.ntmps28
    go_wp2_with fail
    with_reducible refine hB.mono ?_
    rintro e w1 ⟨rfl, hk1⟩
    go_wp2_with fail
    refine bodyPost_ret (v := .tuple #[.slice none 0 0, .int .i64 e0]) (by simp [results, Try.results28, go_sem]) rfl ⟨.slice none 0 0, rfl, by rw [HV.out]; exact own_nilR, hk1⟩
  obtain ⟨ra, rb⟩ := both_zero he
  have HRA := Lib.hid (rec_of ra)
  have HRB := Lib.hid (rec_of rb)
  have HFE := Lib.hid (show mrgF a b = mrgE a b by rw [HF.out, if_neg (by rw [he]; simp)])
  have hla : n ≤ 400 := by rw [← HL.out]; exact HRA.out.len
  have hlb : n' ≤ 400 := by rw [← HL'.out]; exact HRB.out.len
  rw [he] at hB
  clear he ra rb HF
  go_enter Try.func28, Try.ntmps28
  go_wp2_with fail
  with_reducible refine hB.mono ?_
  rintro e w1 ⟨rfl, hk1⟩
  have hnews := rd_news ((HX.out.no hk1).no (Kp.alloc No w1 (.cells #[] 41)))
  have hw1 := hk1.size
  go_wp2_with (at_builtin; refine stop_in ?_)
  refine stop_out ?_
  refine wpL_append_any rfl _ _ 22 rfl w.heap.size 41 i0 (Wk.val default) 11 96 Try.underlying22 hi0 hz0 hz1 hz2 rfl (by decide) (.slice (some ⟨w1.heap.size, 0, none⟩) 0 0) 0 [] rfl (own_empty hw1) A n ca (a.flatMap Wk.cells) rfl (by rw [flat_len wk_len, HL.out]) HA.out hnews (wk_one a) (by unfold maxLen; omega) (by omega) (by simp; omega) ?_
  intro v1 w2 hown hgrow hat
  have hk2 : Kp No w w2 := (hk1.tr (Kp.alloc No w1 (.cells #[] 41))).trans (Kp.grown (S := Kq.One w1.heap.size) hgrow fun k hk _ => by simp [Value.ownBlock] at hk; exact hk.symm) fun k hk e => by
    have e : k = w1.heap.size := e
    omega
  have HO2 := Lib.hid (show w2.ownsRow w.heap.size 41 11 v1 n (a.flatMap Wk.cells) by simpa using hown)
  clear hnews hown hgrow hat hw1 hB
  go_wp2_with fail
  go_loopw [7, 8] (fun vo vi wr => ∃ (k : Nat) (S : List Wk), k ≤ n' ∧ vi = .int .i64 k ∧ (∀ (j : Nat) (v : Wk), j < k → b[j]? = some v → clash1 a v = false) ∧ wr.ownsRow w.heap.size 41 11 vo S.length (S.flatMap Wk.cells) ∧ S.Perm (a ++ miss a (b.take k)) ∧ SrtN S ∧ Kp No w wr) (fun _ vi _ => n' - (intOf vi).toNat)
  case atStart => exact ⟨0, a, by omega, rfl, fun j v h => by omega, by rw [HL.out]; exact HO2.out, by simp [miss], srtN_of HRA.out.srt, hk2⟩
  case round =>
    obtain ⟨k, S, hk, rfl, hcl, how, hpm, hst, hkp⟩ := hrel
    have HCL := Lib.hid hcl
    have HPM := Lib.hid hpm
    have HST := Lib.hid hst
    have hlS : S.length ≤ 800 := by
      rw [hpm.length_eq, List.length_append, HL.out]
      have : (miss a (b.take k)).length ≤ (b.take k).length := List.length_filter_le _ _
      rw [List.length_take] at this
      omega
    obtain ⟨M, hM⟩ : ∃ M, M = S.length := ⟨_, rfl⟩
    rw [← hM] at how hlS
    have HM := Lib.hid hM
    obtain ⟨al, cl, rfl, _, _, _⟩ := own_form how
    have HOW := Lib.hid how
    clear hcl how hpm hst hM
    by_cases hlt : k < n'
    · obtain ⟨v, hv⟩ : ∃ v, b[k]? = some v := ⟨_, List.getElem?_eq_getElem (by rw [HL'.out]; omega)⟩
      obtain ⟨b', o, rfl, hb, hat⟩ := RdW.at_ (HY.out.no hkp) hv
      have HMT := Lib.hid (miss_takeR (a := a) hv)
      have HV := Lib.hid hv
      have HAT := Lib.hid hat
      obtain ⟨c0, c1, _⟩ := hat
      have hkc : (k : Int) < (n' : Int) := by omega
      have HFD := Lib.hid (fun w' (q : Kp No wr w') => rfind_any A n ca a v.wk v.num w' (HX.out.no (hkp.tr q)) (by omega))
      have KD := Lib.hid (fun k : Nat => Kp.drewN No wr k)
      obtain ⟨ti, hti⟩ : ∃ ti, ti = findI a (v.wk, v.num) := ⟨_, rfl⟩
      rw [← hti] at HFD
      have HT := Lib.hid (show ti = findI a v.nm from hti)
      clear hv hti
      go_wp2_with fail
      go_quiet (first | (go_at_call 57; with_reducible exact Calls.quiet_of_same (HFD.out _ (KD.out _))))
      have HO3 := Lib.hid ((Kp.drewN No wr nq).owns HOW.out fun _ _ h => h)
      have hkr3 := Kp.drewN No wr nq
      have hk3 := hkp.tr hkr3
      have HAT3 := Lib.hid (HAT.out.no hkr3)
      clear c0 c1 HFD KD HOW HAT hkr3
      generalize wr.drewN nq = w3 at HO3 hk3 HAT3 ⊢
      obtain ⟨c0, c1, c2, c3, c4, c5, c6, c7, c8, c9, c10⟩ := HAT3.out
      cases hf : findN a v.nm with
      | none =>
        obtain rfl : ti = -1 := by rw [HT.out]; unfold findI; rw [hf]
        have HC1 := Lib.hid (show clash1 a v = false by unfold clash1; rw [hf])
        have HM1 := Lib.hid (show miss a (b.take (k + 1)) = miss a (b.take k) ++ [v] by rw [HMT.out, hf]; rfl)
        have hrd : RdW w3 al M S := Rd.of_own wk_len (by omega) HO3.out
        have hpt := rput_any al M cl S v w3 hrd (by omega) (own_news HO3.out).1
        clear hf hrd
        go_wp2_with fail
        change Calls _ _ #[.slice al M cl, Wk.val v] _ _
        with_reducible refine hpt.mono ?_
        rintro e w4 ⟨v4, S4, rfl, ho4, hpr, hk34⟩
        have hk4 := hk3.tr hk34
        have HO4 := Lib.hid (show w4.ownsRow w.heap.size 41 11 v4 S4.length (S4.flatMap Wk.cells) by rw [hpr.len, ← HM.out]; exact own_mono ho4 hk3.size)
        have HPR := Lib.hid hpr
        clear ho4 hpr hk34 hpt c0 c1 c2 c3 c4 c5 c6 c7 c8 c9 c10
        go_wp2_with fail
        go_roundw
        case rel =>
          refine ⟨k + 1, S4, by omega, by go_num, fun j u hj hu => ?_, HO4.out, ?_, HPR.out.2 HST.out, hk4⟩
          · by_cases e : j = k
            · subst e
              rw [HV.out] at hu
              cases hu
              exact HC1.out
            · exact HCL.out j u (by omega) hu
          · rw [HM1.out, ← List.append_assoc]
            exact HPR.out.1.trans (HPM.out.append_right [v])
        case measure => simp [intOf]; omega
      | some j =>
        obtain rfl : ti = j := by rw [HT.out]; unfold findI; rw [hf]
        obtain ⟨u, hu, _⟩ := findN_at hf
        have hj := (List.getElem?_eq_some_iff.1 hu).1
        rw [HL.out] at hj
        obtain ⟨ba, oa, rfl, _, hau⟩ := RdW.at_ (HX.out.no hk3) hu
        obtain ⟨d0, d1, d2, d3, d4, d5, d6, d7, d8, d9, d10⟩ := hau
        have HM1 := Lib.hid (show miss a (b.take (k + 1)) = miss a (b.take k) by rw [HMT.out, hf]; simp)
        have HC1 := Lib.hid (show clash1 a v = !eqW u v by unfold clash1; rw [hf]; simp [List.getD_eq_getElem?_getD, hu])
        have HE := fun w' => work_equal w' u v
        simp only [Wk.val] at HE
        have hjn : (j : Int) < (n : Int) := by omega
        have hj0 : decide ((j : Int) < 0) = false := by rw [decide_eq_false_iff_not]; omega
        clear hf hu hj
        generalize eqW u v = q at HE HC1
        cases q with
        | true =>
          go_wp2_with fail
          go_quiet (fail)
          go_wp2_with fail
          go_roundw
          case rel =>
            refine ⟨k + 1, S, by omega, by go_num, fun j u hj hu => ?_, by rw [← HM.out]; exact (Kp.drewN No w3 _).owns HO3.out (fun _ _ h => h), by rw [HM1.out]; exact HPM.out, HST.out, hk3.tr (Kp.drewN _ _ _)⟩
            by_cases e : j = k
            · subst e
              rw [HV.out] at hu
              cases hu
              exact HC1.out
            · exact HCL.out j u (by omega) hu
          case measure => simp [intOf]; omega
        | false =>
          have HCA := Lib.hid (show clash a b = true by unfold clash; exact List.any_eq_true.2 ⟨v, List.mem_of_getElem? HV.out, HC1.out⟩)
          have HZ := Lib.hid (show mrgF a b = 8 by rw [HFE.out]; unfold mrgE; rw [HCA.out]; rfl)
          have HVV := Lib.hid (show mrgV a b = [] by unfold mrgV; rw [HZ.out]; rfl)
          go_wp2_with fail
          go_quiet (fail)
          go_wp2_with fail
          refine bodyPost_ret (v := .tuple #[.slice none 0 0, .int .i64 8]) (by simp [results, Try.results28, go_sem]) rfl ⟨.slice none 0 0, by rw [HZ.out], by rw [HVV.out]; exact own_nilR, hk3.tr (Kp.drewN _ _ _)⟩
    · obtain rfl : k = n' := by omega
      have HALL := Lib.hid (show clash a b = false by
        unfold clash
        rw [List.any_eq_false]
        intro v hv
        obtain ⟨j, hj⟩ := List.getElem?_of_mem hv
        have := (List.getElem?_eq_some_iff.1 hj).1
        rw [HCL.out j v (by rw [HL'.out] at this; omega) hj]
        simp)
      have HPB := Lib.hid (show S.Perm (bothW a b) by have := HPM.out; rwa [List.take_of_length_le (by rw [HL'.out]; omega)] at this)
      have HEQ := Lib.hid (mrg_uniq HRA.out.names HRB.out.names HPB.out HST.out)
      have HBL := Lib.hid (show (bothW a b).length = M by rw [← HPB.out.length_eq, HM.out])
      by_cases hfull : M ≤ 400
      · have HZ := Lib.hid (show mrgF a b = 0 by rw [HFE.out]; unfold mrgE; rw [HALL.out, HBL.out]; simp; omega)
        have HVV := Lib.hid (show mrgV a b = S by unfold mrgV; rw [HZ.out, HEQ.out]; rfl)
        have hcmp : decide ((400 : Int) < (M : Int)) = false := by rw [decide_eq_false_iff_not]; omega
        go_wp2_with fail
        refine bodyPost_ret (v := .tuple #[.slice al M cl, .int .i64 0]) (by simp [results, Try.results28, go_sem]) rfl ⟨.slice al M cl, by rw [HZ.out], ?_, hkp⟩
        rw [HVV.out, ← HM.out]
        exact HOW.out
      · have HZ := Lib.hid (show mrgF a b = 5 by rw [HFE.out]; unfold mrgE; rw [HALL.out, HBL.out]; simp; omega)
        have HVV := Lib.hid (show mrgV a b = [] by unfold mrgV; rw [HZ.out]; rfl)
        have hcmp : decide ((400 : Int) < (M : Int)) = true := by rw [decide_eq_true_eq]; omega
        go_wp2_with fail
        refine bodyPost_ret (v := .tuple #[.slice none 0 0, .int .i64 5]) (by simp [results, Try.results28, go_sem]) rfl ⟨.slice none 0 0, by rw [HZ.out], by rw [HVV.out]; exact own_nilR, hkp⟩
end Go.Proofs.Ytjbpdimepckmfaa
