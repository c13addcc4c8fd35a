/- Chapter 27: the law of VoicingLack. Printed by gen_lla.py. -/
import Derived.Test.YtjbpdimepckmfaaXLmgM
namespace Go.Proofs.Ytjbpdimepckmfaa
open Go.RowKit Go.Kq

set_option maxHeartbeats 2000000 in
set_option maxRecDepth 100000 in
theorem lbefore_any (a b : Wk) (w : World) : Calls Try.prog 38 #[a.val, b.val] w fun e w' => e = .returned (.bool (ltW a b)) ∧ Kp No w w' := by
  obtain ⟨a0, a1, a2, a3, a4, a5, a6, a7, a8, a9, a10⟩ := a
  obtain ⟨b0, b1, b2, b3, b4, b5, b6, b7, b8, b9, b10⟩ := b
  simp only [Wk.val, ltW]
  rcases Int.lt_trichotomy a2 b2 with h2 | h2 | h2
  · have e2 : (a2 != b2) = true := by simp; omega
    go_enter Try.func38, Try.ntmps38
    go_wp2
    all_goals
      go_ret
      exact ⟨ret_bool (by rw [Bool.eq_iff_iff]; simp; omega), (Kp.alloc _ _ _).tr (Kp.alloc _ _ _)⟩
  · subst h2
    rcases Int.lt_trichotomy a0 b0 with h0 | h0 | h0
    · go_enter Try.func38, Try.ntmps38
      go_wp2
      all_goals
        go_ret
        exact ⟨ret_bool (by rw [Bool.eq_iff_iff]; simp; omega), (Kp.alloc _ _ _).tr (Kp.alloc _ _ _)⟩
    · subst h0
      go_enter Try.func38, Try.ntmps38
      go_wp2
      all_goals
        go_ret
        exact ⟨ret_bool (by rw [Bool.eq_iff_iff]; simp), (Kp.alloc _ _ _).tr (Kp.alloc _ _ _)⟩
    · have e0 : (a0 == b0) = false := by simp; omega
      have e1 : decide (a0 < b0) = false := by simp; omega
      go_enter Try.func38, Try.ntmps38
      go_wp2
      all_goals
        go_ret
        exact ⟨ret_bool (by rw [eq_comm, decide_eq_false_iff_not]; omega), (Kp.alloc _ _ _).tr (Kp.alloc _ _ _)⟩
  · have e2 : (a2 != b2) = true := by simp; omega
    go_enter Try.func38, Try.ntmps38
    go_wp2
    all_goals
      go_ret
      exact ⟨ret_bool (by rw [Bool.eq_iff_iff]; simp; omega), (Kp.alloc _ _ _).tr (Kp.alloc _ _ _)⟩

/-! ### what is new (plain) -/
theorem seen_fine {a : List Wk} (h : Rec a) : (seenL a).any badN = false := by
  rw [List.any_eq_false]
  intro x hx
  unfold seenL at hx
  obtain ⟨k, _, rfl⟩ := List.mem_map.1 hx
  have h1 := many_le a (k : Int)
  have h2 := h.len
  unfold badN
  simp only [Bool.or_eq_true, decide_eq_true_eq]
  omega
theorem seen_find {a : List Wk} (h : Rec a) {v : Wk} (h0 : 0 ≤ v.wk) (h20 : v.wk < 20) (h1 : 1 ≤ v.num) : seenP (seenL a) v = (findN a v.nm).isSome := by
  obtain ⟨q, hq⟩ : ∃ q : Nat, v.wk = (q : Int) := ⟨v.wk.toNat, by omega⟩
  unfold seenP
  rw [hq, Int.toNat_natCast, List.getD_eq_getElem?_getD, seenL_at (by omega), Option.getD_some]
  have hnum := h.num (q : Int)
  have hm : many a (q : Int) = (wkr a (q : Int)).length := rfl
  rw [Bool.eq_iff_iff, decide_eq_true_eq]
  constructor
  · intro hle
    obtain ⟨j, hj⟩ : ∃ j : Nat, v.num = (j : Int) + 1 := ⟨(v.num - 1).toNat, by omega⟩
    have hjl : j < (wkr a (q : Int)).length := by omega
    have hu := List.getElem?_eq_getElem hjl
    generalize (wkr a (q : Int))[j] = u at hu
    have h2 : ((wkr a (q : Int)).map Wk.num)[j]? = some u.num := by rw [List.getElem?_map, hu]; rfl
    rw [hnum] at h2
    have h3 := (nums_at h2).2
    have h4 := wkr_mem.1 (List.mem_of_getElem? hu)
    cases hf : findN a v.nm with
    | some k => rfl
    | none =>
      refine absurd ?_ (findN_none.1 hf u h4.1)
      unfold Wk.nm
      rw [h4.2, ← hq, h3, hj]
  · intro hs
    obtain ⟨k, hk⟩ := Option.isSome_iff_exists.1 hs
    obtain ⟨u, hu, he⟩ := findN_at hk
    unfold Wk.nm at he
    rw [Prod.mk.injEq] at he
    have h5 := wkr_mem.2 ⟨List.mem_of_getElem? hu, he.1.trans hq⟩
    obtain ⟨j, hj⟩ := List.getElem?_of_mem h5
    have h2 : ((wkr a (q : Int)).map Wk.num)[j]? = some u.num := by rw [List.getElem?_map, hj]; rfl
    rw [hnum] at h2
    have h3 := nums_at h2
    omega
theorem since_miss {a b : List Wk} (ha : Rec a) (hb : Rec b) : sinceE b (seenV a) = 0 ∧ sinceV b (seenV a) = miss a b := by
  have e1 : seenV a = seenL a := if_pos (rec_chk ha)
  have e2 : sinceE b (seenL a) = 0 := by
    unfold sinceE
    rw [if_neg (by rw [rec_chk hb]; simp), if_neg (by rw [seenL_len, seen_fine ha]; simp)]
  rw [e1]
  refine ⟨e2, ?_⟩
  unfold sinceV
  rw [if_pos e2]
  unfold sinceL keepL miss
  refine List.filter_congr fun v hv => ?_
  obtain ⟨i, hi⟩ := List.getElem?_of_mem hv
  obtain ⟨h0, h20, h1, _⟩ := hb.fits i v hi
  rw [seen_find ha h0 h20 h1]
  cases findN a v.nm <;> rfl
theorem fits_mrgV {a b : List Wk} (fa : Fits a) (fb : Fits b) : Fits (mrgV a b) := by
  unfold mrgV
  split
  · intro v hv
    rw [(mrg_perm a b).mem_iff] at hv
    unfold bothW miss at hv
    rcases List.mem_append.1 hv with hv | hv
    · exact fa v hv
    · exact fb v (List.mem_filter.1 hv).1
  · intro v hv
    cases hv
set_option maxHeartbeats 2000000 in
set_option maxRecDepth 100000 in
theorem tlack_bad (A : Option Addr) (n ca : Nat) (a : List Wk) (B : Option Addr) (m cb : Nat) (b : List Wk) (w : World) (hx : RdW w A n a) (fa : Fits a) (nA : A = none → n = 0 ∧ ca = 0) (hy : RdW w B m b) (fb : Fits b) (hbad : mrgF a b ≠ 0) :
    Calls Try.prog 10 #[.slice A n ca, .slice B m cb] w fun e w' => e = .returned (.bool true) ∧ Kp No w w' := by
  have hm := Merge_any A n ca a B m cb b w hx hy fa fb nA
  have q1 : (mrgF a b != 0) = true := by rw [bne_iff_ne]; exact hbad
  clear hx hy fa fb nA hbad
  generalize mrgF a b = e1 at hm q1
  generalize mrgV a b = L1 at hm
  go_enter Try.func10, Try.ntmps10
  go_wp2_with fail
  with_reducible refine hm.mono ?_
  rintro e w1 ⟨v1, rfl, ho1, hk1⟩
  obtain ⟨A1, c1, rfl, _, _, _⟩ := own_form ho1
  clear hm ho1
  go_wp2_with fail
  with_reducible refine (awake_any w1).mono ?_
  rintro e w2 ⟨rfl, hk2⟩
  go_wp2_with fail
  go_ret
  exact ⟨rfl, hk1.tr hk2⟩
set_option maxHeartbeats 6000000 in
set_option maxRecDepth 100000 in
theorem tlack_ok (A : Option Addr) (n ca : Nat) (a : List Wk) (B : Option Addr) (m cb : Nat) (b : List Wk) (w : World) (hx : RdW w A n a) (fa : Fits a) (nA : A = none → n = 0 ∧ ca = 0) (hy : RdW w B m b) (fb : Fits b) (nB : B = none → m = 0 ∧ cb = 0) (hok : mrgF a b = 0) :
    Calls Try.prog 10 #[.slice A n ca, .slice B m cb] w fun e w' => e = .returned (.bool true) ∧ Kp No w w' := by
  obtain ⟨i0, hi0, hz0, hz1, hz2⟩ := info_parts info41
  have hE : bothE a b = 0 := by
    rw [mrgF_both] at hok
    by_cases h : bothE a b = 0
    · exact h
    · rw [if_pos h] at hok
      exact absurd hok h
  obtain ⟨ra, rb⟩ := both_zero hE
  have HRA := Lib.hid (rec_of ra)
  have HRB := Lib.hid (rec_of rb)
  have HME := Lib.hid (show mrgE a b = 0 by rw [← mrgF_rec HRA.out HRB.out]; exact hok)
  have HVL := Lib.hid (show mrgV a b = mrgL a b from if_pos hok)
  have HSM := Lib.hid (since_miss HRA.out HRB.out)
  have hm := Merge_any A n ca a B m cb b w hx hy fa fb nA
  have HSA := Lib.hid (fun w' (k : Kp No w w') => Seen_any A n ca a w' (hx.no k) fa)
  have HIA := Lib.hid (fun w' (q : Kp No w w') (C : Option Addr) (k cc : Nat) (hz : RdI .i64 w' C k (seenV a)) (hk : k ≤ maxLen) => Since_any B m cb b C k cc (seenV a) w' (hy.no q) fb nB hz hk)
  rw [hok] at hm
  rw [ra] at HSA
  rw [HSM.out.1, HSM.out.2] at HIA
  have HF := Lib.hid (fits_mrgV fa fb)
  have HX := Lib.hid hx
  have HL := Lib.hid hx.1
  have HA := Lib.hid nA
  have hla : n ≤ 400 := by rw [← HL.out]; exact HRA.out.len
  have F1 := Lib.hid (mrgV_few a b)
  have F3 := Lib.hid (seenV_few a)
  have HUQ := Lib.hid (fun (S : List Wk) (h1 : S.Perm (a ++ miss a b)) (h2 : SrtN S) => (show S = mrgV a b by rw [HVL.out]; exact mrg_uniq HRA.out.names HRB.out.names h1 h2))
  have HCK := Lib.hid (show chkL (mrgV a b) = 0 by rw [HVL.out]; exact rec_chk (mrg_rec HRA.out HRB.out HME.out))
  have F4 := Lib.hid (show (miss a b).length ≤ 400 from Nat.le_trans (List.length_filter_le _ _) HRB.out.len)
  have HSR := Lib.hid (srtN_of HRA.out.srt)
  clear hx hy fa fb nA nB hok hE ra rb HRA HRB HME HVL HSM
  generalize mrgV a b = L1 at hm HF F1 HUQ HCK
  generalize seenV a = L3 at HSA HIA F3
  generalize miss a b = N at HIA HUQ F4
  go_enter Try.func10, Try.ntmps10
  go_wp2_with fail
  with_reducible refine hm.mono ?_
  rintro e w1 ⟨v1, rfl, ho1, hk1⟩
  obtain ⟨A1, c1, rfl, hr1, _⟩ := own_rdW ho1
  have HR1 := Lib.hid hr1
  clear hm ho1 hr1
  go_wp2_with fail
  with_reducible refine (HSA.out w1 hk1).mono ?_
  rintro e w2 ⟨v2, rfl, ho2, hk12⟩
  obtain ⟨A2, c2, rfl, hr2⟩ := own_rdI ho2
  have HR2 := Lib.hid hr2
  have HR12 := Lib.hid (HR1.out.no hk12)
  have hk2 := hk1.tr hk12
  clear ho2 hr2 hk1 hk12 HR1
  go_wp2_with fail
  with_reducible refine (HIA.out w2 hk2 A2 L3.length c2 HR2.out (by have := F3.out; unfold maxLen; omega)).mono ?_
  rintro e w3 ⟨v3, rfl, ho3, hk23⟩
  obtain ⟨A3, c3, rfl, hr3, _⟩ := own_rdW ho3
  have HR3 := Lib.hid hr3
  have HR13 := Lib.hid (HR12.out.no hk23)
  have hk3 := hk2.tr hk23
  obtain ⟨M, hM⟩ : ∃ M, M = N.length := ⟨_, rfl⟩
  rw [← hM] at HR3
  have HM := Lib.hid hM
  have hM4 : M ≤ 400 := by rw [hM]; exact F4.out
  rw [← hM]
  clear ho3 hr3 hk2 hk23 HR12 HR2 hM
  have hnews := rd_news ((HX.out.no hk3).no (Kp.alloc No w3 (.cells #[] 41)))
  go_wp2_with (at_builtin; refine stop_in ?_)
  refine stop_out ?_
  refine wpL_append_any rfl _ _ 22 rfl w3.heap.size 41 i0 (Wk.val default) 11 96 Try.underlying22 hi0 hz0 hz1 hz2 rfl (by decide) (.slice (some ⟨w3.heap.size, 0, none⟩) 0 0) 0 [] rfl (own_empty (Nat.le_refl _)) A n ca (a.flatMap Wk.cells) rfl (by rw [flat_len wk_len, HL.out]) HA.out hnews (wk_one a) (by unfold maxLen; omega) (by omega) (by simp) ?_
  intro v4 w4 hown hgrow hat
  have hk34 : Kp No w3 w4 := (Kp.alloc No w3 (.cells #[] 41)).trans (Kp.grown (S := Kq.One w3.heap.size) hgrow fun k hk _ => by simp [Value.ownBlock] at hk; exact hk.symm) fun k hk e => by
    have e : k = w3.heap.size := e
    omega
  have HO4 := Lib.hid (show w4.ownsRow w3.heap.size 41 11 v4 n (a.flatMap Wk.cells) by simpa using hown)
  have HK3 := Lib.hid hk3
  clear hnews hown hgrow hat hk3
  go_wp2_with fail
  go_loopw [11, 12] (fun vo vi wr => ∃ (i : Nat) (S : List Wk), i ≤ M ∧ vi = .int .i64 i ∧ wr.ownsRow w3.heap.size 41 11 vo S.length (S.flatMap Wk.cells) ∧ S.Perm (a ++ N.take i) ∧ SrtN S ∧ Kp No w3 wr) (fun _ vi _ => M - (intOf vi).toNat)
  case atStart => exact ⟨0, a, by omega, rfl, by rw [HL.out]; exact HO4.out, by simp, HSR.out, hk34⟩
  case round =>
    obtain ⟨i, S, hi, rfl, how, hpm, hst, hkp⟩ := hrel
    have HPM := Lib.hid hpm
    have HST := Lib.hid hst
    obtain ⟨s, hs⟩ : ∃ s, s = S.length := ⟨_, rfl⟩
    have hs8 : s ≤ 800 := by
      rw [hs, hpm.length_eq, List.length_append, HL.out, List.length_take]
      omega
    rw [← hs] at how
    have HSl := Lib.hid hs.symm
    have HOW := Lib.hid how
    obtain ⟨al, cl, rfl, _, _, _⟩ := own_form how
    obtain ⟨wo, rfl⟩ : ∃ wo : World, wo = wr := ⟨_, rfl⟩
    clear how hpm hst hs HO4 hk34
    by_cases hlt : i < M
    · obtain ⟨x, hxi⟩ : ∃ x, N[i]? = some x := ⟨_, List.getElem?_eq_getElem (by rw [← HM.out]; omega)⟩
      obtain ⟨b', o', rfl, _, c0, c1, c2, c3, c4, c5, c6, c7, c8, c9, c10⟩ := RdW.at_ (HR3.out.no hkp) hxi
      have HTK := Lib.hid (show N.take (i + 1) = N.take i ++ [x] by rw [List.take_add_one, hxi]; rfl)
      have hiM : (i : Int) < (M : Int) := by omega
      clear hxi
      go_wp2_with (at_builtin; refine stop_in ?_)
      refine stop_out ?_
      refine wpL_append_any rfl _ _ 22 rfl w3.heap.size 41 i0 (Wk.val default) 11 96 Try.underlying22 hi0 hz0 hz1 hz2 rfl (by decide) (.slice al s cl) s _ rfl (HOW.out.alloc (.cells x.cells.toArray 41)) (some ⟨wo.heap.size, 0, none⟩) 1 1 x.cells rfl rfl (fun h => (by cases h)) (fun ad had => by cases had; exact new_cells wo x.cells (by rw [wk_len]; unfold maxLen; omega)) (cells_oneP x) (by unfold maxLen; omega) (by omega) (by have := hkp.size; simp; omega) ?_
      intro v' w7 hown' hgrow hat'
      have hk7 : Kp No w3 w7 := kp_app hkp HOW.out (Nat.le_refl _) hgrow
      obtain ⟨a7, cc, rfl, hcc, _, hg7⟩ := own_form hown'
      obtain ⟨g, rfl⟩ := hg7 (by omega)
      have hO : w7.ownsRow w3.heap.size 41 11 (.slice (some ⟨g, 0, none⟩) (s + 1) cc) (s + 1) ((S ++ x :: []).flatMap Wk.cells) := by rw [flat_snoc]; exact hown'
      have HNO := Lib.hid (fun (k : Nat) (hk : k < w3.heap.size) (e : Kq.One g k) => (show False by have e : k = g := e; have := (own_ge hO (g := g) rfl).1; omega))
      have HOL7 := Lib.hid hO
      clear hO hown' hgrow hat' hg7 c0 c1 c2 c3 c4 c5 c6 c7 c8 c9 c10 HOW
      go_wp2_with fail
      go_loopw [13] (fun vk wr => ∃ (A B : List Wk), vk = .int .i64 A.length ∧ S = A ++ B ∧ (∀ b ∈ B, ltW x b = true) ∧ wr.ownsRow w3.heap.size 41 11 (.slice (some ⟨g, 0, none⟩) (s + 1) cc) (s + 1) ((A ++ x :: B).flatMap Wk.cells) ∧ Kp No w3 wr) (fun vk _ => (intOf vk).toNat)
      case atStart => exact ⟨S, [], by rw [HSl.out], by simp, by simp, HOL7.out, hk7⟩
      case round =>
        obtain ⟨A, B, rfl, hAB, hB, hrow, hkq⟩ := hrel
        have HAB := Lib.hid hAB
        have HB := Lib.hid hB
        have HR := Lib.hid hrow
        clear hAB hB hrow
        have hAl : A.length ≤ s := by have h1 := HSl.out; have h2 := congrArg List.length HAB.out; rw [List.length_append] at h2; omega
        have HLL := Lib.hid (show (A ++ x :: B).length = s + 1 by have h1 := HSl.out; have h2 := congrArg List.length HAB.out; rw [List.length_append] at h2 ⊢; rw [List.length_cons]; omega)
        obtain ⟨k, hk⟩ : ∃ k, k = A.length := ⟨_, rfl⟩
        rw [← hk]
        have hki : k ≤ s := by omega
        have HK := Lib.hid hk
        clear hk hAl
        rcases Nat.eq_zero_or_pos k with h0 | h0
        · subst h0
          have hA0 : A = [] := List.length_eq_zero_iff.1 HK.out.symm
          have hd0 : decide ((0 : Int) < ((0 : Nat) : Int)) = false := rfl
          have HE := Lib.hid (put_R HAB.out HB.out (fun _ a ha => by rw [hA0] at ha; cases ha))
          clear hA0
          go_wp2_with fail
          go_quiet (fail)
          have HRq := Lib.hid ((Kp.drewN No wr nq).owns HR.out (fun _ _ h => h))
          have hkq1 := hkq.tr (Kp.drewN No wr nq)
          clear hd0
          generalize wr.drewN nq = wq at HRq hkq1 ⊢
          go_wp2_with fail
          go_roundw
          case rel => exact ⟨i + 1, A ++ x :: B, by omega, by go_num, by rw [HLL.out]; exact HRq.out, by rw [HTK.out, ← List.append_assoc]; exact HE.out.1.trans (HPM.out.append_right [x]), HE.out.2 HST.out, hkq1⟩
          case measure => simp [intOf]; omega
        · obtain ⟨p, rfl⟩ : ∃ p, k = p + 1 := ⟨k - 1, by omega⟩
          obtain ⟨A', aa, hAA⟩ : ∃ A' aa, A = A' ++ [aa] := by
            rcases List.eq_nil_or_concat A with h | ⟨A', a, h⟩
            · have := HK.out
              rw [h] at this
              simp at this
            · exact ⟨A', a, by rw [h, List.concat_eq_append]⟩
          have HAA := Lib.hid hAA
          have HAL := Lib.hid (show A'.length = p by have h := HK.out; rw [hAA, List.length_append] at h; simp at h; omega)
          clear hAA
          rw [show ((p + 1 : Nat) : Int) = (p : Int) + 1 from by omega]
          have hd0 : decide ((0 : Int) < (p : Int) + 1) = true := decide_eq_true (by omega)
          have HAJ := Lib.hid (put_at0 HAA.out HAL.out (x := x) (B := B))
          have HXJ := Lib.hid (put_at1 HAA.out HAL.out (x := x) (B := B))
          have HSW := Lib.hid (put_swap HAA.out HAL.out (x := x) (B := B))
          have HLN := Lib.hid (show p < (A ++ x :: B).length by rw [HLL.out]; omega)
          have HLN1 := Lib.hid (show p + 1 < (A ++ x :: B).length by rw [HLL.out]; omega)
          obtain ⟨d0, d1, d2, d3, d4, d5, d6, d7, d8, d9, d10⟩ := WkAt.of (row_at wk_len HR.out (by decide) HAJ.out)
          obtain ⟨c0, c1, c2, c3, c4, c5, c6, c7, c8, c9, c10⟩ := WkAt.of (row_at wk_len HR.out (by decide) HXJ.out)
          have hz0 : (0 : Int) ≤ (p : Int) + 1 := by omega
          have hz1 : (p : Int) + 1 < (s : Int) + 1 := by omega
          have hz2 : (p : Int) < (s : Int) + 1 := by omega
          have hz3 : p + 1 < s + 1 := by omega
          have hz4 : p < s + 1 := by omega
          have hwp : IntKind.i64.wrap (p : Int) = (p : Int) := IntWalk.i64_in _ (by omega)
          cases hlt : ltW x aa
          · have HLT := Lib.hid hlt
            have HE := Lib.hid (put_R2 HAB.out HB.out HAA.out hlt)
            clear hlt
            go_wp2_with fail
            have FS : Stab (fun ix wz u => True) := fun ix u wz wz' kz h => trivial
            replace FS := Lib.hid FS
            refine wp_region_each (fun ix uR => match ix with | 0 => uR = .int .i64 ((p : Int) + 1) | 1 => uR = .bool true | 2 => uR = .bool true | 3 => uR = .slice (some ⟨g, 0, none⟩) (s + 1) cc | 4 => uR = .int .i64 ((p : Int) + 1) | 5 => uR = .pointer (some ⟨g, (p + 1) * 11, none⟩) | 6 => uR = Wk.val x | 7 => uR = .slice (some ⟨g, 0, none⟩) (s + 1) cc | 8 => uR = .int .i64 ((p : Int) + 1) | 9 => uR = .int .i64 (p : Int) | 10 => uR = .pointer (some ⟨g, p * 11, none⟩) | 11 => uR = Wk.val aa | 12 => uR = .bool false | 13 => uR = .bool false | _ => True) (HvW wr (fun ix wz u => True)) (by kernel_rfl) (by kernel_rfl) (by kernel_rfl) ?_ ?_ ?_
            · exact HvW.start _ _
            · refine ⟨?_, ?_, ?_, ?_, ?_, ?_, ?_, ?_, ?_, ?_, ?_, ?_, ?_, ?_, trivial⟩
              · intro r a w' hf hg hW hr hd K hK
                refine wpOp_of rfl rfl ?_
                have e0 : a.tmps.getD 13 undef = .int .i64 ((p : Int) + 1) := hf.evalFree (by kernel_rfl)
                go_simp
                exact hK _ _ rfl (hW.upd 0 _ trivial)
              · intro r a w' hf hg hW hr hd K hK
                refine wpOp_of rfl rfl ?_
                refine hf.depE hg hd 0 59 (by kernel_rfl) fun u0 e0 g0 h0 => ?_
                replace g0 : u0 = .int .i64 ((p : Int) + 1) := g0
                subst g0
                have h00 := hd0
                go_simp
                exact hK _ _ rfl (hW.upd 1 _ trivial)
              · intro r a w' hf hg hW hr hd K hK
                refine wpOp_of rfl rfl ?_
                refine hf.depE hg hd 1 60 (by kernel_rfl) fun u0 e0 g0 h0 => ?_
                replace g0 : u0 = .bool true := g0
                subst g0
                go_simp
                exact hK _ _ rfl (hW.upd 2 _ trivial)
              · intro r a w' hf hg hW hr hd K hK
                refine hf.depE hg hd 2 61 (by kernel_rfl) fun uG eG gG _ => ?_
                replace gG : uG = .bool true := gG
                subst gG
                refine wpOp_run rfl rfl rfl rfl eG ?_
                have e0 : a.tmps.getD 11 undef = .slice (some ⟨g, 0, none⟩) (s + 1) cc := hf.evalFree (by kernel_rfl)
                go_simp
                exact hK _ _ rfl (hW.upd 3 _ trivial)
              · intro r a w' hf hg hW hr hd K hK
                refine hf.depE hg hd 2 61 (by kernel_rfl) fun uG eG gG _ => ?_
                replace gG : uG = .bool true := gG
                subst gG
                refine wpOp_run rfl rfl rfl rfl eG ?_
                have e0 : a.tmps.getD 13 undef = .int .i64 ((p : Int) + 1) := hf.evalFree (by kernel_rfl)
                go_simp
                exact hK _ _ rfl (hW.upd 4 _ trivial)
              · intro r a w' hf hg hW hr hd K hK
                refine hf.depE hg hd 2 61 (by kernel_rfl) fun uG eG gG _ => ?_
                replace gG : uG = .bool true := gG
                subst gG
                refine wpOp_run rfl rfl rfl rfl eG ?_
                refine hf.depE hg hd 3 62 (by kernel_rfl) fun u0 e0 g0 h0 => ?_
                replace g0 : u0 = .slice (some ⟨g, 0, none⟩) (s + 1) cc := g0
                subst g0
                refine hf.depE hg hd 4 63 (by kernel_rfl) fun u1 e1 g1 h1 => ?_
                replace g1 : u1 = .int .i64 ((p : Int) + 1) := g1
                subst g1
                go_simp
                exact hK _ _ rfl (hW.upd 5 _ trivial)
              · intro r a w' hf hg hW hr hd K hK
                refine hf.depE hg hd 2 61 (by kernel_rfl) fun uG eG gG _ => ?_
                replace gG : uG = .bool true := gG
                subst gG
                refine wpOp_run rfl rfl rfl rfl eG ?_
                refine hf.depE hg hd 5 64 (by kernel_rfl) fun u0 e0 g0 h0 => ?_
                replace g0 : u0 = .pointer (some ⟨g, (p + 1) * 11, none⟩) := g0
                subst g0
                have z0 := hW.kp.cell c0 id
                have z1 := hW.kp.cell c1 id
                have z2 := hW.kp.cell c2 id
                have z3 := hW.kp.cell c3 id
                have z4 := hW.kp.cell c4 id
                have z5 := hW.kp.cell c5 id
                have z6 := hW.kp.cell c6 id
                have z7 := hW.kp.cell c7 id
                have z8 := hW.kp.cell c8 id
                have z9 := hW.kp.cell c9 id
                have z10 := hW.kp.cell c10 id
                go_simp
                exact hK _ _ rfl (hW.upd 6 _ trivial)
              · intro r a w' hf hg hW hr hd K hK
                refine hf.depE hg hd 2 61 (by kernel_rfl) fun uG eG gG _ => ?_
                replace gG : uG = .bool true := gG
                subst gG
                refine wpOp_run rfl rfl rfl rfl eG ?_
                have e0 : a.tmps.getD 11 undef = .slice (some ⟨g, 0, none⟩) (s + 1) cc := hf.evalFree (by kernel_rfl)
                go_simp
                exact hK _ _ rfl (hW.upd 7 _ trivial)
              · intro r a w' hf hg hW hr hd K hK
                refine hf.depE hg hd 2 61 (by kernel_rfl) fun uG eG gG _ => ?_
                replace gG : uG = .bool true := gG
                subst gG
                refine wpOp_run rfl rfl rfl rfl eG ?_
                have e0 : a.tmps.getD 13 undef = .int .i64 ((p : Int) + 1) := hf.evalFree (by kernel_rfl)
                go_simp
                exact hK _ _ rfl (hW.upd 8 _ trivial)
              · intro r a w' hf hg hW hr hd K hK
                refine hf.depE hg hd 2 61 (by kernel_rfl) fun uG eG gG _ => ?_
                replace gG : uG = .bool true := gG
                subst gG
                refine wpOp_run rfl rfl rfl rfl eG ?_
                refine hf.depE hg hd 8 67 (by kernel_rfl) fun u0 e0 g0 h0 => ?_
                replace g0 : u0 = .int .i64 ((p : Int) + 1) := g0
                subst g0
                go_simp
                exact hK _ _ rfl (hW.upd 9 _ trivial)
              · intro r a w' hf hg hW hr hd K hK
                refine hf.depE hg hd 2 61 (by kernel_rfl) fun uG eG gG _ => ?_
                replace gG : uG = .bool true := gG
                subst gG
                refine wpOp_run rfl rfl rfl rfl eG ?_
                refine hf.depE hg hd 7 66 (by kernel_rfl) fun u0 e0 g0 h0 => ?_
                replace g0 : u0 = .slice (some ⟨g, 0, none⟩) (s + 1) cc := g0
                subst g0
                refine hf.depE hg hd 9 68 (by kernel_rfl) fun u1 e1 g1 h1 => ?_
                replace g1 : u1 = .int .i64 (p : Int) := g1
                subst g1
                go_simp
                exact hK _ _ rfl (hW.upd 10 _ trivial)
              · intro r a w' hf hg hW hr hd K hK
                refine hf.depE hg hd 2 61 (by kernel_rfl) fun uG eG gG _ => ?_
                replace gG : uG = .bool true := gG
                subst gG
                refine wpOp_run rfl rfl rfl rfl eG ?_
                refine hf.depE hg hd 10 69 (by kernel_rfl) fun u0 e0 g0 h0 => ?_
                replace g0 : u0 = .pointer (some ⟨g, p * 11, none⟩) := g0
                subst g0
                have z0 := hW.kp.cell d0 id
                have z1 := hW.kp.cell d1 id
                have z2 := hW.kp.cell d2 id
                have z3 := hW.kp.cell d3 id
                have z4 := hW.kp.cell d4 id
                have z5 := hW.kp.cell d5 id
                have z6 := hW.kp.cell d6 id
                have z7 := hW.kp.cell d7 id
                have z8 := hW.kp.cell d8 id
                have z9 := hW.kp.cell d9 id
                have z10 := hW.kp.cell d10 id
                go_simp
                exact hK _ _ rfl (hW.upd 11 _ trivial)
              · intro r a w' hf hg hW hr hd K hK
                refine hf.depE hg hd 2 61 (by kernel_rfl) fun uG eG gG _ => ?_
                replace gG : uG = .bool true := gG
                subst gG
                refine wpOp_run rfl rfl rfl rfl eG ?_
                refine hf.depE hg hd 6 65 (by kernel_rfl) fun u0 e0 g0 h0 => ?_
                replace g0 : u0 = Wk.val x := g0
                subst g0
                refine hf.depE hg hd 11 70 (by kernel_rfl) fun u1 e1 g1 h1 => ?_
                replace g1 : u1 = Wk.val aa := g1
                subst g1
                go_simp
                refine (lbefore_any x aa w').mono ?_
                rw [HLT.out]
                rintro e w'' ⟨rfl, k'⟩
                exact hK _ _ rfl ((hW.call FS.out k').upd 12 _ trivial)
              · intro r a w' hf hg hW hr hd K hK
                refine wpOp_of rfl rfl ?_
                refine hf.depE hg hd 2 61 (by kernel_rfl) fun u0 e0 g0 h0 => ?_
                replace g0 : u0 = .bool true := g0
                subst g0
                have e0' := get_of_getD e0
                refine hf.depE hg hd 12 71 (by kernel_rfl) fun u1 e1 g1 h1 => ?_
                replace g1 : u1 = .bool false := g1
                subst g1
                have e1' := get_of_getD e1
                go_simp
                exact hK _ _ rfl (hW.upd 13 _ trivial)
            intro r' wq hg hW hr'
            have hkN := hW.kp
            obtain ⟨q13, hq13⟩ : ∃ u, r' 13 = some u := Option.ne_none_iff_exists'.1 (hr' 13 (by decide))
            have hk13 := hg 13 q13 hq13
            replace hk13 : q13 = .bool false := hk13
            subst hk13
            simp only [List.length_cons, List.length_nil, Nat.reduceAdd, List.range_succ, List.range_zero, List.nil_append, List.cons_append, List.map_cons, List.map_nil, putAll, Act.put, List.setIfInBounds_toArray, List.set_cons_succ, List.set_cons_zero, hq13, Option.getD_some]
            clear hg hW hr' FS hq13
            have HRq := Lib.hid (hkN.owns HR.out (fun _ _ h => h))
            have hkq1 := hkq.tr hkN
            clear c0 c1 c2 c3 c4 c5 c6 c7 c8 c9 c10 d0 d1 d2 d3 d4 d5 d6 d7 d8 d9 d10 hd0
            go_wp2_with fail
            go_roundw
            case rel => exact ⟨i + 1, A ++ x :: B, by omega, by go_num, by rw [HLL.out]; exact HRq.out, by rw [HTK.out, ← List.append_assoc]; exact HE.out.1.trans (HPM.out.append_right [x]), HE.out.2 HST.out, hkq1⟩
            case measure => simp [intOf]; omega
          · have HLT := Lib.hid hlt
            have HB' := Lib.hid (show ∀ b ∈ aa :: B, ltW x b = true from fun b hb => by rcases List.mem_cons.1 hb with rfl | hb; exact hlt; exact HB.out b hb)
            clear hlt
            go_wp2_with fail
            have FS : Stab (fun ix wz u => True) := fun ix u wz wz' kz h => trivial
            replace FS := Lib.hid FS
            refine wp_region_each (fun ix uR => match ix with | 0 => uR = .int .i64 ((p : Int) + 1) | 1 => uR = .bool true | 2 => uR = .bool true | 3 => uR = .slice (some ⟨g, 0, none⟩) (s + 1) cc | 4 => uR = .int .i64 ((p : Int) + 1) | 5 => uR = .pointer (some ⟨g, (p + 1) * 11, none⟩) | 6 => uR = Wk.val x | 7 => uR = .slice (some ⟨g, 0, none⟩) (s + 1) cc | 8 => uR = .int .i64 ((p : Int) + 1) | 9 => uR = .int .i64 (p : Int) | 10 => uR = .pointer (some ⟨g, p * 11, none⟩) | 11 => uR = Wk.val aa | 12 => uR = .bool true | 13 => uR = .bool true | _ => True) (HvW wr (fun ix wz u => True)) (by kernel_rfl) (by kernel_rfl) (by kernel_rfl) ?_ ?_ ?_
            · exact HvW.start _ _
            · refine ⟨?_, ?_, ?_, ?_, ?_, ?_, ?_, ?_, ?_, ?_, ?_, ?_, ?_, ?_, trivial⟩
              · intro r a w' hf hg hW hr hd K hK
                refine wpOp_of rfl rfl ?_
                have e0 : a.tmps.getD 13 undef = .int .i64 ((p : Int) + 1) := hf.evalFree (by kernel_rfl)
                go_simp
                exact hK _ _ rfl (hW.upd 0 _ trivial)
              · intro r a w' hf hg hW hr hd K hK
                refine wpOp_of rfl rfl ?_
                refine hf.depE hg hd 0 59 (by kernel_rfl) fun u0 e0 g0 h0 => ?_
                replace g0 : u0 = .int .i64 ((p : Int) + 1) := g0
                subst g0
                have h00 := hd0
                go_simp
                exact hK _ _ rfl (hW.upd 1 _ trivial)
              · intro r a w' hf hg hW hr hd K hK
                refine wpOp_of rfl rfl ?_
                refine hf.depE hg hd 1 60 (by kernel_rfl) fun u0 e0 g0 h0 => ?_
                replace g0 : u0 = .bool true := g0
                subst g0
                go_simp
                exact hK _ _ rfl (hW.upd 2 _ trivial)
              · intro r a w' hf hg hW hr hd K hK
                refine hf.depE hg hd 2 61 (by kernel_rfl) fun uG eG gG _ => ?_
                replace gG : uG = .bool true := gG
                subst gG
                refine wpOp_run rfl rfl rfl rfl eG ?_
                have e0 : a.tmps.getD 11 undef = .slice (some ⟨g, 0, none⟩) (s + 1) cc := hf.evalFree (by kernel_rfl)
                go_simp
                exact hK _ _ rfl (hW.upd 3 _ trivial)
              · intro r a w' hf hg hW hr hd K hK
                refine hf.depE hg hd 2 61 (by kernel_rfl) fun uG eG gG _ => ?_
                replace gG : uG = .bool true := gG
                subst gG
                refine wpOp_run rfl rfl rfl rfl eG ?_
                have e0 : a.tmps.getD 13 undef = .int .i64 ((p : Int) + 1) := hf.evalFree (by kernel_rfl)
                go_simp
                exact hK _ _ rfl (hW.upd 4 _ trivial)
              · intro r a w' hf hg hW hr hd K hK
                refine hf.depE hg hd 2 61 (by kernel_rfl) fun uG eG gG _ => ?_
                replace gG : uG = .bool true := gG
                subst gG
                refine wpOp_run rfl rfl rfl rfl eG ?_
                refine hf.depE hg hd 3 62 (by kernel_rfl) fun u0 e0 g0 h0 => ?_
                replace g0 : u0 = .slice (some ⟨g, 0, none⟩) (s + 1) cc := g0
                subst g0
                refine hf.depE hg hd 4 63 (by kernel_rfl) fun u1 e1 g1 h1 => ?_
                replace g1 : u1 = .int .i64 ((p : Int) + 1) := g1
                subst g1
                go_simp
                exact hK _ _ rfl (hW.upd 5 _ trivial)
              · intro r a w' hf hg hW hr hd K hK
                refine hf.depE hg hd 2 61 (by kernel_rfl) fun uG eG gG _ => ?_
                replace gG : uG = .bool true := gG
                subst gG
                refine wpOp_run rfl rfl rfl rfl eG ?_
                refine hf.depE hg hd 5 64 (by kernel_rfl) fun u0 e0 g0 h0 => ?_
                replace g0 : u0 = .pointer (some ⟨g, (p + 1) * 11, none⟩) := g0
                subst g0
                have z0 := hW.kp.cell c0 id
                have z1 := hW.kp.cell c1 id
                have z2 := hW.kp.cell c2 id
                have z3 := hW.kp.cell c3 id
                have z4 := hW.kp.cell c4 id
                have z5 := hW.kp.cell c5 id
                have z6 := hW.kp.cell c6 id
                have z7 := hW.kp.cell c7 id
                have z8 := hW.kp.cell c8 id
                have z9 := hW.kp.cell c9 id
                have z10 := hW.kp.cell c10 id
                go_simp
                exact hK _ _ rfl (hW.upd 6 _ trivial)
              · intro r a w' hf hg hW hr hd K hK
                refine hf.depE hg hd 2 61 (by kernel_rfl) fun uG eG gG _ => ?_
                replace gG : uG = .bool true := gG
                subst gG
                refine wpOp_run rfl rfl rfl rfl eG ?_
                have e0 : a.tmps.getD 11 undef = .slice (some ⟨g, 0, none⟩) (s + 1) cc := hf.evalFree (by kernel_rfl)
                go_simp
                exact hK _ _ rfl (hW.upd 7 _ trivial)
              · intro r a w' hf hg hW hr hd K hK
                refine hf.depE hg hd 2 61 (by kernel_rfl) fun uG eG gG _ => ?_
                replace gG : uG = .bool true := gG
                subst gG
                refine wpOp_run rfl rfl rfl rfl eG ?_
                have e0 : a.tmps.getD 13 undef = .int .i64 ((p : Int) + 1) := hf.evalFree (by kernel_rfl)
                go_simp
                exact hK _ _ rfl (hW.upd 8 _ trivial)
              · intro r a w' hf hg hW hr hd K hK
                refine hf.depE hg hd 2 61 (by kernel_rfl) fun uG eG gG _ => ?_
                replace gG : uG = .bool true := gG
                subst gG
                refine wpOp_run rfl rfl rfl rfl eG ?_
                refine hf.depE hg hd 8 67 (by kernel_rfl) fun u0 e0 g0 h0 => ?_
                replace g0 : u0 = .int .i64 ((p : Int) + 1) := g0
                subst g0
                go_simp
                exact hK _ _ rfl (hW.upd 9 _ trivial)
              · intro r a w' hf hg hW hr hd K hK
                refine hf.depE hg hd 2 61 (by kernel_rfl) fun uG eG gG _ => ?_
                replace gG : uG = .bool true := gG
                subst gG
                refine wpOp_run rfl rfl rfl rfl eG ?_
                refine hf.depE hg hd 7 66 (by kernel_rfl) fun u0 e0 g0 h0 => ?_
                replace g0 : u0 = .slice (some ⟨g, 0, none⟩) (s + 1) cc := g0
                subst g0
                refine hf.depE hg hd 9 68 (by kernel_rfl) fun u1 e1 g1 h1 => ?_
                replace g1 : u1 = .int .i64 (p : Int) := g1
                subst g1
                go_simp
                exact hK _ _ rfl (hW.upd 10 _ trivial)
              · intro r a w' hf hg hW hr hd K hK
                refine hf.depE hg hd 2 61 (by kernel_rfl) fun uG eG gG _ => ?_
                replace gG : uG = .bool true := gG
                subst gG
                refine wpOp_run rfl rfl rfl rfl eG ?_
                refine hf.depE hg hd 10 69 (by kernel_rfl) fun u0 e0 g0 h0 => ?_
                replace g0 : u0 = .pointer (some ⟨g, p * 11, none⟩) := g0
                subst g0
                have z0 := hW.kp.cell d0 id
                have z1 := hW.kp.cell d1 id
                have z2 := hW.kp.cell d2 id
                have z3 := hW.kp.cell d3 id
                have z4 := hW.kp.cell d4 id
                have z5 := hW.kp.cell d5 id
                have z6 := hW.kp.cell d6 id
                have z7 := hW.kp.cell d7 id
                have z8 := hW.kp.cell d8 id
                have z9 := hW.kp.cell d9 id
                have z10 := hW.kp.cell d10 id
                go_simp
                exact hK _ _ rfl (hW.upd 11 _ trivial)
              · intro r a w' hf hg hW hr hd K hK
                refine hf.depE hg hd 2 61 (by kernel_rfl) fun uG eG gG _ => ?_
                replace gG : uG = .bool true := gG
                subst gG
                refine wpOp_run rfl rfl rfl rfl eG ?_
                refine hf.depE hg hd 6 65 (by kernel_rfl) fun u0 e0 g0 h0 => ?_
                replace g0 : u0 = Wk.val x := g0
                subst g0
                refine hf.depE hg hd 11 70 (by kernel_rfl) fun u1 e1 g1 h1 => ?_
                replace g1 : u1 = Wk.val aa := g1
                subst g1
                go_simp
                refine (lbefore_any x aa w').mono ?_
                rw [HLT.out]
                rintro e w'' ⟨rfl, k'⟩
                exact hK _ _ rfl ((hW.call FS.out k').upd 12 _ trivial)
              · intro r a w' hf hg hW hr hd K hK
                refine wpOp_of rfl rfl ?_
                refine hf.depE hg hd 2 61 (by kernel_rfl) fun u0 e0 g0 h0 => ?_
                replace g0 : u0 = .bool true := g0
                subst g0
                have e0' := get_of_getD e0
                refine hf.depE hg hd 12 71 (by kernel_rfl) fun u1 e1 g1 h1 => ?_
                replace g1 : u1 = .bool true := g1
                subst g1
                have e1' := get_of_getD e1
                go_simp
                exact hK _ _ rfl (hW.upd 13 _ trivial)
            intro r' wq hg hW hr'
            have hkN := hW.kp
            obtain ⟨q13, hq13⟩ : ∃ u, r' 13 = some u := Option.ne_none_iff_exists'.1 (hr' 13 (by decide))
            have hk13 := hg 13 q13 hq13
            replace hk13 : q13 = .bool true := hk13
            subst hk13
            simp only [List.length_cons, List.length_nil, Nat.reduceAdd, List.range_succ, List.range_zero, List.nil_append, List.cons_append, List.map_cons, List.map_nil, putAll, Act.put, List.setIfInBounds_toArray, List.set_cons_succ, List.set_cons_zero, hq13, Option.getD_some]
            clear hg hW hr' FS hq13
            have HR' := Lib.hid (hkN.owns HR.out (fun _ _ h => h))
            have hkq1 := hkq.tr hkN
            clear c0 c1 c2 c3 c4 c5 c6 c7 c8 c9 c10 d0 d1 d2 d3 d4 d5 d6 d7 d8 d9 d10 hkN
            go_wp2_with fail
            refine wp_region_each (fun ix uR => match ix with | 0 => uR = .slice (some ⟨g, 0, none⟩) (s + 1) cc | 1 => uR = .int .i64 ((p : Int) + 1) | 2 => uR = .slice (some ⟨g, 0, none⟩) (s + 1) cc | 3 => uR = .int .i64 ((p : Int) + 1) | 4 => uR = .int .i64 (p : Int) | 5 => uR = .slice (some ⟨g, 0, none⟩) (s + 1) cc | 6 => uR = .int .i64 ((p : Int) + 1) | 7 => uR = .int .i64 (p : Int) | 8 => uR = .pointer (some ⟨g, p * 11, none⟩) | 9 => uR = Wk.val aa | 10 => uR = .slice (some ⟨g, 0, none⟩) (s + 1) cc | 11 => uR = .int .i64 ((p : Int) + 1) | 12 => uR = .pointer (some ⟨g, (p + 1) * 11, none⟩) | 13 => uR = Wk.val x | 14 => uR = .pointer (some ⟨g, (p + 1) * 11, none⟩) | 16 => uR = .pointer (some ⟨g, p * 11, none⟩) | _ => True)
              (SwK Wk.cells 11 wq g w3.heap.size 41 (s + 1) cc (A ++ x :: B) (p + 1) p x aa 9 13 15 17) (by kernel_rfl) (by kernel_rfl) (by kernel_rfl) ?_ ?_ ?_
            · exact SwK.start HR'.out
            · refine ⟨?_, ?_, ?_, ?_, ?_, ?_, ?_, ?_, ?_, ?_, ?_, ?_, ?_, ?_, ?_, ?_, ?_, ?_, trivial⟩
              · intro r a w' hf hg hW hr hd K hK
                refine wpOp_of rfl rfl ?_
                have e0 : a.tmps.getD 11 undef = .slice (some ⟨g, 0, none⟩) (s + 1) cc := hf.evalFree (by kernel_rfl)
                go_simp
                exact hK _ _ rfl (hW.upd 0 _ (by decide) (by decide))
              · intro r a w' hf hg hW hr hd K hK
                refine wpOp_of rfl rfl ?_
                have e0 : a.tmps.getD 13 undef = .int .i64 ((p : Int) + 1) := hf.evalFree (by kernel_rfl)
                go_simp
                exact hK _ _ rfl (hW.upd 1 _ (by decide) (by decide))
              · intro r a w' hf hg hW hr hd K hK
                refine wpOp_of rfl rfl ?_
                have e0 : a.tmps.getD 11 undef = .slice (some ⟨g, 0, none⟩) (s + 1) cc := hf.evalFree (by kernel_rfl)
                go_simp
                exact hK _ _ rfl (hW.upd 2 _ (by decide) (by decide))
              · intro r a w' hf hg hW hr hd K hK
                refine wpOp_of rfl rfl ?_
                have e0 : a.tmps.getD 13 undef = .int .i64 ((p : Int) + 1) := hf.evalFree (by kernel_rfl)
                go_simp
                exact hK _ _ rfl (hW.upd 3 _ (by decide) (by decide))
              · intro r a w' hf hg hW hr hd K hK
                refine wpOp_of rfl rfl ?_
                refine hf.depE hg hd 3 78 (by kernel_rfl) fun u0 e0 g0 h0 => ?_
                replace g0 : u0 = .int .i64 ((p : Int) + 1) := g0
                subst g0
                go_simp
                exact hK _ _ rfl (hW.upd 4 _ (by decide) (by decide))
              · intro r a w' hf hg hW hr hd K hK
                refine wpOp_of rfl rfl ?_
                have e0 : a.tmps.getD 11 undef = .slice (some ⟨g, 0, none⟩) (s + 1) cc := hf.evalFree (by kernel_rfl)
                go_simp
                exact hK _ _ rfl (hW.upd 5 _ (by decide) (by decide))
              · intro r a w' hf hg hW hr hd K hK
                refine wpOp_of rfl rfl ?_
                have e0 : a.tmps.getD 13 undef = .int .i64 ((p : Int) + 1) := hf.evalFree (by kernel_rfl)
                go_simp
                exact hK _ _ rfl (hW.upd 6 _ (by decide) (by decide))
              · intro r a w' hf hg hW hr hd K hK
                refine wpOp_of rfl rfl ?_
                refine hf.depE hg hd 6 81 (by kernel_rfl) fun u0 e0 g0 h0 => ?_
                replace g0 : u0 = .int .i64 ((p : Int) + 1) := g0
                subst g0
                go_simp
                exact hK _ _ rfl (hW.upd 7 _ (by decide) (by decide))
              · intro r a w' hf hg hW hr hd K hK
                refine wpOp_of rfl rfl ?_
                refine hf.depE hg hd 5 80 (by kernel_rfl) fun u0 e0 g0 h0 => ?_
                replace g0 : u0 = .slice (some ⟨g, 0, none⟩) (s + 1) cc := g0
                subst g0
                refine hf.depE hg hd 7 82 (by kernel_rfl) fun u1 e1 g1 h1 => ?_
                replace g1 : u1 = .int .i64 (p : Int) := g1
                subst g1
                go_simp
                exact hK _ _ rfl (hW.upd 8 _ (by decide) (by decide))
              · intro r a w' hf hg hW hr hd K hK
                refine wpOp_of rfl rfl ?_
                refine hf.depE hg hd 8 83 (by kernel_rfl) fun u0 e0 g0 h0 => ?_
                replace g0 : u0 = .pointer (some ⟨g, p * 11, none⟩) := g0
                subst g0
                obtain ⟨y0, y1, y2, y3, y4, y5, y6, y7, y8, y9, y10⟩ := WkAt.of (hW.loadj wk_len (by decide) hr (by omega) HAJ.out)
                go_simp
                exact hK _ _ rfl (hW.upd 9 _ (by decide) (by decide))
              · intro r a w' hf hg hW hr hd K hK
                refine wpOp_of rfl rfl ?_
                have e0 : a.tmps.getD 11 undef = .slice (some ⟨g, 0, none⟩) (s + 1) cc := hf.evalFree (by kernel_rfl)
                go_simp
                exact hK _ _ rfl (hW.upd 10 _ (by decide) (by decide))
              · intro r a w' hf hg hW hr hd K hK
                refine wpOp_of rfl rfl ?_
                have e0 : a.tmps.getD 13 undef = .int .i64 ((p : Int) + 1) := hf.evalFree (by kernel_rfl)
                go_simp
                exact hK _ _ rfl (hW.upd 11 _ (by decide) (by decide))
              · intro r a w' hf hg hW hr hd K hK
                refine wpOp_of rfl rfl ?_
                refine hf.depE hg hd 10 85 (by kernel_rfl) fun u0 e0 g0 h0 => ?_
                replace g0 : u0 = .slice (some ⟨g, 0, none⟩) (s + 1) cc := g0
                subst g0
                refine hf.depE hg hd 11 86 (by kernel_rfl) fun u1 e1 g1 h1 => ?_
                replace g1 : u1 = .int .i64 ((p : Int) + 1) := g1
                subst g1
                go_simp
                exact hK _ _ rfl (hW.upd 12 _ (by decide) (by decide))
              · intro r a w' hf hg hW hr hd K hK
                refine wpOp_of rfl rfl ?_
                refine hf.depE hg hd 12 87 (by kernel_rfl) fun u0 e0 g0 h0 => ?_
                replace g0 : u0 = .pointer (some ⟨g, (p + 1) * 11, none⟩) := g0
                subst g0
                obtain ⟨y0, y1, y2, y3, y4, y5, y6, y7, y8, y9, y10⟩ := WkAt.of (hW.loadi wk_len (by decide) hr (by omega) HXJ.out)
                go_simp
                exact hK _ _ rfl (hW.upd 13 _ (by decide) (by decide))
              · intro r a w' hf hg hW hr hd K hK
                refine wpOp_of rfl rfl ?_
                refine hf.depE hg hd 0 75 (by kernel_rfl) fun u0 e0 g0 h0 => ?_
                replace g0 : u0 = .slice (some ⟨g, 0, none⟩) (s + 1) cc := g0
                subst g0
                refine hf.depE hg hd 1 76 (by kernel_rfl) fun u1 e1 g1 h1 => ?_
                replace g1 : u1 = .int .i64 ((p : Int) + 1) := g1
                subst g1
                go_simp
                exact hK _ _ rfl (hW.upd 14 _ (by decide) (by decide))
              · intro r a w' hf hg hW hr hd K hK
                refine wpOp_of rfl rfl ?_
                refine hf.depE hg hd 14 89 (by kernel_rfl) fun u0 e0 g0 h0 => ?_
                replace g0 : u0 = .pointer (some ⟨g, (p + 1) * 11, none⟩) := g0
                subst g0
                refine hf.depE hg hd 9 84 (by kernel_rfl) fun u1 e1 g1 h1 => ?_
                replace g1 : u1 = Wk.val aa := g1
                subst g1
                refine hf.depE hg hd 13 88 (by kernel_rfl) fun uo eo go ho => ?_
                obtain ⟨old, hold⟩ := hW.old wk_len (by decide) (k := (p + 1)) HLN1.out
                obtain ⟨y0, y1, y2, y3, y4, y5, y6, y7, y8, y9, y10⟩ := WkAt.of hold
                have fz := hW.free
                have f0 := fz ((p + 1) * 11)
                have f1 := fz ((p + 1) * 11 + 1)
                have f2 := fz ((p + 1) * 11 + 2)
                have f3 := fz ((p + 1) * 11 + 3)
                have f4 := fz ((p + 1) * 11 + 4)
                have f5 := fz ((p + 1) * 11 + 5)
                have f6 := fz ((p + 1) * 11 + 6)
                have f7 := fz ((p + 1) * 11 + 7)
                have f8 := fz ((p + 1) * 11 + 8)
                have f9 := fz ((p + 1) * 11 + 9)
                have f10 := fz ((p + 1) * 11 + 10)
                clear fz hold
                simp only [Wk.val] at e1 h1
                go_simp
                exact hK undef _ trivial (hW.sta wk_len hr (by rw [ho]; simp) (by decide) (by omega) HLN1.out undef)
              · intro r a w' hf hg hW hr hd K hK
                refine wpOp_of rfl rfl ?_
                refine hf.depE hg hd 2 77 (by kernel_rfl) fun u0 e0 g0 h0 => ?_
                replace g0 : u0 = .slice (some ⟨g, 0, none⟩) (s + 1) cc := g0
                subst g0
                refine hf.depE hg hd 4 79 (by kernel_rfl) fun u1 e1 g1 h1 => ?_
                replace g1 : u1 = .int .i64 (p : Int) := g1
                subst g1
                go_simp
                exact hK _ _ rfl (hW.upd 16 _ (by decide) (by decide))
              · intro r a w' hf hg hW hr hd K hK
                refine wpOp_of rfl rfl ?_
                refine hf.depE hg hd 16 90 (by kernel_rfl) fun u0 e0 g0 h0 => ?_
                replace g0 : u0 = .pointer (some ⟨g, p * 11, none⟩) := g0
                subst g0
                refine hf.depE hg hd 13 88 (by kernel_rfl) fun u1 e1 g1 h1 => ?_
                replace g1 : u1 = Wk.val x := g1
                subst g1
                refine hf.depE hg hd 9 84 (by kernel_rfl) fun uo eo go ho => ?_
                obtain ⟨old, hold⟩ := hW.old wk_len (by decide) (k := p) HLN.out
                obtain ⟨y0, y1, y2, y3, y4, y5, y6, y7, y8, y9, y10⟩ := WkAt.of hold
                have fz := hW.free
                have f0 := fz (p * 11)
                have f1 := fz (p * 11 + 1)
                have f2 := fz (p * 11 + 2)
                have f3 := fz (p * 11 + 3)
                have f4 := fz (p * 11 + 4)
                have f5 := fz (p * 11 + 5)
                have f6 := fz (p * 11 + 6)
                have f7 := fz (p * 11 + 7)
                have f8 := fz (p * 11 + 8)
                have f9 := fz (p * 11 + 9)
                have f10 := fz (p * 11 + 10)
                clear fz hold
                simp only [Wk.val] at e1 h1
                go_simp
                exact hK undef _ trivial (hW.stb wk_len hr (by rw [ho]; simp) (by decide) HLN.out undef)
            intro r' w9 hg hW hr'
            have ho9 := hW.fin (hr' 15 (by decide)) (hr' 17 (by decide))
            have hk9 := hkq1.trans hW.kp HNO.out
            rw [HSW.out] at ho9
            have HO9 := Lib.hid ho9
            clear hg hW hr' ho9
            simp only [List.length_cons, List.length_nil, Nat.reduceAdd, List.range_succ, List.range_zero, List.nil_append, List.cons_append, List.map_cons, List.map_nil, putAll, Act.put, List.setIfInBounds_toArray, List.set_cons_succ, List.set_cons_zero]
            go_wp2_with fail
            go_roundw
            case rel => exact ⟨A', aa :: B, by rw [HAL.out], by rw [HAB.out, HAA.out]; simp, HB'.out, HO9.out, hk9⟩
            case measure => simp [intOf]
    · obtain rfl : i = M := by omega
      rw [List.take_of_length_le (by rw [← HM.out]; exact Nat.le_refl _)] at HPM
      obtain rfl : S = L1 := HUQ.out S HPM.out HST.out
      have hrS : RdW wo al s S := Rd.of_own wk_len (by omega) HOW.out
      have HR1o := Lib.hid (HR13.out.no hkp)
      go_wp2_with fail
      with_reducible refine (sameW_any al A1 s S.length cl c1 S S wo hrS HR1o.out (by omega)).mono ?_
      rw [decide_eq_true (rfl : S = S)]
      rintro e w8 ⟨rfl, hk8⟩
      have hc := Check_any A1 S.length c1 S w8 (HR1o.out.no hk8) HF.out
      rw [HCK.out] at hc
      have hkw8 := (HK3.out.tr hkp).tr hk8
      clear hrS HR1o
      go_wp2_with fail
      with_reducible refine hc.mono ?_
      rintro e w9 ⟨rfl, hk9⟩
      go_wp2_with fail
      with_reducible refine (awake_any w9).mono ?_
      rintro e wa ⟨rfl, hka⟩
      go_wp2_with fail
      go_ret
      exact ⟨rfl, (hkw8.tr hk9).tr hka⟩
theorem tlack_any (A : Option Addr) (n ca : Nat) (a : List Wk) (B : Option Addr) (m cb : Nat) (b : List Wk) (w : World) (hx : RdW w A n a) (fa : Fits a) (nA : A = none → n = 0 ∧ ca = 0) (hy : RdW w B m b) (fb : Fits b) (nB : B = none → m = 0 ∧ cb = 0) :
    Calls Try.prog 10 #[.slice A n ca, .slice B m cb] w fun e w' => e = .returned (.bool true) ∧ Kp No w w' := by
  by_cases h : mrgF a b = 0
  · exact tlack_ok A n ca a B m cb b w hx fa nA hy fb nB h
  · exact tlack_bad A n ca a B m cb b w hx fa nA hy fb h
end Go.Proofs.Ytjbpdimepckmfaa
