/- Chapter 27: the law of VoicingSame. -/
import Derived.Test.YtjbpdimepckmfaaXAwk
import Derived.Test.YtjbpdimepckmfaaXRch
namespace Go.Proofs.Ytjbpdimepckmfaa
open Go.RowKit Go.Kq

theorem fits_mrg {a b : List Wk} (ha : Fits a) (hb : Fits b) : Fits (mrgV a b) := by
  intro v hv
  unfold mrgV at hv
  split at hv
  · have := (mrg_perm a b).mem_iff.1 hv
    unfold bothW miss at this
    rcases List.mem_append.1 this with h | h
    · exact ha v h
    · exact hb v (List.mem_filter.1 h).1
  · cases hv
theorem stRes_uniq {l : List Wk} {s t : List Pv} (h : StRes l s) (h2 : StRes l t) : s = t := by
  unfold StRes at h h2
  split at h
  · rename_i he
    rw [if_pos he] at h2
    exact isSt_uniq h h2
  · rename_i he
    rw [if_neg he] at h2
    rw [h, h2]
/-- What the walk needs of a merge's result. -/
theorem own_rd {w : World} {base : Nat} {v : Value} {l : List Wk} (h : w.ownsRow base 41 11 v l.length (l.flatMap Wk.cells)) : ∃ A c, v = .slice A l.length c ∧ RdW w A l.length l ∧ (A = none → l.length = 0 ∧ c = 0) := by
  obtain ⟨A, c, rfl, _, _, _⟩ := own_form h
  exact ⟨A, c, rfl, Rd.of_own wk_len (by omega) h, (own_news h).1⟩
theorem own_rdP {w : World} {base : Nat} {v : Value} {l : List Pv} (h : w.ownsRow base 64 12 v l.length (l.flatMap Pv.cells)) : ∃ A c, v = .slice A l.length c ∧ RdP w A l.length l := by
  obtain ⟨A, c, rfl, _, _, _⟩ := own_form h
  exact ⟨A, c, rfl, Rd.of_own pv_len (by omega) h⟩
theorem mrgV_len (a b : List Wk) : (mrgV a b).length ≤ 400 := by
  unfold mrgV
  split
  · rename_i h
    rw [mrg_len]
    unfold mrgF at h
    split at h
    · contradiction
    · split at h
      · contradiction
      · unfold mrgE at h
        split at h
        · cases h
        · split at h
          · cases h
          · omega
  · simp
set_option maxHeartbeats 400000 in
set_option maxRecDepth 100000 in
theorem tsame_bad1 (A B C : Option Addr) (n m k ca cb cc : Nat) (a b c : List Wk) (w : World) (hx : RdW w A n a) (hy : RdW w B m b) (hz : RdW w C k c) (fa : Fits a) (fb : Fits b) (fc : Fits c) (ha : n ≤ ca) (hb : m ≤ cb) (hc : k ≤ cc)
    (nA : A = none → n = 0 ∧ ca = 0) (nB : B = none → m = 0 ∧ cb = 0) (nC : C = none → k = 0 ∧ cc = 0) (h1 : chkL a ≠ 0) :
    Calls Try.prog 3 #[.slice A n ca, .slice B m cb, .slice C k cc] w fun e w' => e = .returned (.bool true) ∧ Kp No w w' := by
  have F := Lib.hid (And.intro fa (And.intro fb fc))
  have N := Lib.hid (And.intro nA (And.intro nB nC))
  have CA := fun w' (kk : Kp No w w') => rCheck_any A n ca a w' (hx.no kk) F.out.1 ha
  have CB := fun w' (kk : Kp No w w') => rCheck_any B m cb b w' (hy.no kk) F.out.2.1 hb
  have CC := fun w' (kk : Kp No w w') => rCheck_any C k cc c w' (hz.no kk) F.out.2.2 hc
  have HA := Lib.hid CA
  have HB := Lib.hid CB
  have HC := Lib.hid CC
  have HX := Lib.hid (And.intro hx (And.intro hy hz))
  clear fa fb fc nA nB nC CA CB CC hx hy hz
  have e1 : (chkL a != 0) = true := by rw [bne_iff_ne]; exact h1
  generalize chkL a = x at *
  clear h1
  go_enter Try.func3, Try.ntmps3
  go_wp2_with fail
  refine (HA.out w (Kp.refl _ _)).mono ?_
  rintro e w1 ⟨rfl, hk1⟩
  go_wp2_with fail
  refine (awake_any w1).mono ?_
  rintro e w2 ⟨rfl, hk2⟩
  go_wp2_with fail
  go_ret
  exact ⟨rfl, hk1.tr hk2⟩
set_option maxHeartbeats 400000 in
set_option maxRecDepth 100000 in
theorem tsame_bad2 (A B C : Option Addr) (n m k ca cb cc : Nat) (a b c : List Wk) (w : World) (hx : RdW w A n a) (hy : RdW w B m b) (hz : RdW w C k c) (fa : Fits a) (fb : Fits b) (fc : Fits c) (ha : n ≤ ca) (hb : m ≤ cb) (hc : k ≤ cc)
    (nA : A = none → n = 0 ∧ ca = 0) (nB : B = none → m = 0 ∧ cb = 0) (nC : C = none → k = 0 ∧ cc = 0) (h1 : chkL a = 0) (h2 : chkL b ≠ 0) :
    Calls Try.prog 3 #[.slice A n ca, .slice B m cb, .slice C k cc] w fun e w' => e = .returned (.bool true) ∧ Kp No w w' := by
  have F := Lib.hid (And.intro fa (And.intro fb fc))
  have N := Lib.hid (And.intro nA (And.intro nB nC))
  have CA := fun w' (kk : Kp No w w') => rCheck_any A n ca a w' (hx.no kk) F.out.1 ha
  have CB := fun w' (kk : Kp No w w') => rCheck_any B m cb b w' (hy.no kk) F.out.2.1 hb
  have CC := fun w' (kk : Kp No w w') => rCheck_any C k cc c w' (hz.no kk) F.out.2.2 hc
  have HA := Lib.hid CA
  have HB := Lib.hid CB
  have HC := Lib.hid CC
  have HX := Lib.hid (And.intro hx (And.intro hy hz))
  clear fa fb fc nA nB nC CA CB CC hx hy hz
  have e1 : (chkL b != 0) = true := by rw [bne_iff_ne]; exact h2
  rw [h1] at HA
  generalize chkL b = x at *
  clear h1 h2
  go_enter Try.func3, Try.ntmps3
  go_wp2_with fail
  refine (HA.out w (Kp.refl _ _)).mono ?_
  rintro e w1 ⟨rfl, hk1⟩
  go_wp2_with fail
  refine (HB.out w1 hk1).mono ?_
  rintro e w2 ⟨rfl, hk12⟩
  have hk2 := hk1.tr hk12
  go_wp2_with fail
  refine (awake_any w2).mono ?_
  rintro e w3 ⟨rfl, hk3⟩
  go_wp2_with fail
  go_ret
  exact ⟨rfl, hk2.tr hk3⟩
set_option maxHeartbeats 400000 in
set_option maxRecDepth 100000 in
theorem tsame_bad3 (A B C : Option Addr) (n m k ca cb cc : Nat) (a b c : List Wk) (w : World) (hx : RdW w A n a) (hy : RdW w B m b) (hz : RdW w C k c) (fa : Fits a) (fb : Fits b) (fc : Fits c) (ha : n ≤ ca) (hb : m ≤ cb) (hc : k ≤ cc)
    (nA : A = none → n = 0 ∧ ca = 0) (nB : B = none → m = 0 ∧ cb = 0) (nC : C = none → k = 0 ∧ cc = 0) (h1 : chkL a = 0) (h2 : chkL b = 0) (h3 : chkL c ≠ 0) :
    Calls Try.prog 3 #[.slice A n ca, .slice B m cb, .slice C k cc] w fun e w' => e = .returned (.bool true) ∧ Kp No w w' := by
  have F := Lib.hid (And.intro fa (And.intro fb fc))
  have N := Lib.hid (And.intro nA (And.intro nB nC))
  have CA := fun w' (kk : Kp No w w') => rCheck_any A n ca a w' (hx.no kk) F.out.1 ha
  have CB := fun w' (kk : Kp No w w') => rCheck_any B m cb b w' (hy.no kk) F.out.2.1 hb
  have CC := fun w' (kk : Kp No w w') => rCheck_any C k cc c w' (hz.no kk) F.out.2.2 hc
  have HA := Lib.hid CA
  have HB := Lib.hid CB
  have HC := Lib.hid CC
  have HX := Lib.hid (And.intro hx (And.intro hy hz))
  clear fa fb fc nA nB nC CA CB CC hx hy hz
  have e1 : (chkL c != 0) = true := by rw [bne_iff_ne]; exact h3
  rw [h1] at HA
  rw [h2] at HB
  generalize chkL c = x at *
  clear h1 h2 h3
  go_enter Try.func3, Try.ntmps3
  go_wp2_with fail
  refine (HA.out w (Kp.refl _ _)).mono ?_
  rintro e w1 ⟨rfl, hk1⟩
  go_wp2_with fail
  refine (HB.out w1 hk1).mono ?_
  rintro e w2 ⟨rfl, hk12⟩
  have hk2 := hk1.tr hk12
  go_wp2_with fail
  refine (HC.out w2 hk2).mono ?_
  rintro e w3 ⟨rfl, hk23⟩
  have hk3 := hk2.tr hk23
  go_wp2_with fail
  refine (awake_any w3).mono ?_
  rintro e w4 ⟨rfl, hk4⟩
  go_wp2_with fail
  go_ret
  exact ⟨rfl, hk3.tr hk4⟩
set_option maxHeartbeats 400000 in
set_option maxRecDepth 100000 in
theorem tsame_ok (A B C : Option Addr) (n m k ca cb cc : Nat) (a b c : List Wk) (w : World) (hx : RdW w A n a) (hy : RdW w B m b) (hz : RdW w C k c) (fa : Fits a) (fb : Fits b) (fc : Fits c) (ha : n ≤ ca) (hb : m ≤ cb) (hc : k ≤ cc)
    (nA : A = none → n = 0 ∧ ca = 0) (nB : B = none → m = 0 ∧ cb = 0) (nC : C = none → k = 0 ∧ cc = 0) (h1 : chkL a = 0) (h2 : chkL b = 0) (h3 : chkL c = 0) :
    Calls Try.prog 3 #[.slice A n ca, .slice B m cb, .slice C k cc] w fun e w' => e = .returned (.bool true) ∧ Kp No w w' := by
  have F := Lib.hid (And.intro fa (And.intro fb fc))
  have N := Lib.hid (And.intro nA (And.intro nB nC))
  have CA := fun w' (kk : Kp No w w') => rCheck_any A n ca a w' (hx.no kk) F.out.1 ha
  have CB := fun w' (kk : Kp No w w') => rCheck_any B m cb b w' (hy.no kk) F.out.2.1 hb
  have CC := fun w' (kk : Kp No w w') => rCheck_any C k cc c w' (hz.no kk) F.out.2.2 hc
  have HA := Lib.hid CA
  have HB := Lib.hid CB
  have HC := Lib.hid CC
  have HX := Lib.hid (And.intro hx (And.intro hy hz))
  clear fa fb fc nA nB nC CA CB CC hx hy hz
  have RA := rec_of h1
  have RB := rec_of h2
  have RC := rec_of h3
  rw [h1] at HA
  rw [h2] at HB
  rw [h3] at HC
  have LA := RA.len
  have LB := RB.len
  have LC := RC.len
  have hla := HX.out.1.1
  have hlb := HX.out.2.1.1
  have hlc := HX.out.2.2.1
  have MAA := fun w' (kk : Kp No w w') => Merge_any A n ca a A n ca a w' (HX.out.1.no kk) (HX.out.1.no kk) F.out.1 F.out.1 N.out.1
  have MAB := fun w' (kk : Kp No w w') => Merge_any A n ca a B m cb b w' (HX.out.1.no kk) (HX.out.2.1.no kk) F.out.1 F.out.2.1 N.out.1
  have MBA := fun w' (kk : Kp No w w') => Merge_any B m cb b A n ca a w' (HX.out.2.1.no kk) (HX.out.1.no kk) F.out.2.1 F.out.1 N.out.2.1
  have MBC := fun w' (kk : Kp No w w') => Merge_any B m cb b C k cc c w' (HX.out.2.1.no kk) (HX.out.2.2.no kk) F.out.2.1 F.out.2.2 N.out.2.1
  have q1 : mrgF a a = 0 := by rw [mrgF_rec RA RA]; exact (mrgE_self RA).1
  have q2 : mrgV a a = a := by unfold mrgV; rw [if_pos q1]; exact (mrgE_self RA).2
  have q3 : mrgF b a = mrgF a b := by rw [mrgF_rec RA RB, mrgF_rec RB RA]; exact mrgE_comm RB RA
  have q4 : mrgV b a = mrgV a b := by
    unfold mrgV
    rw [q3]
    split
    · rename_i h
      rw [mrgF_rec RA RB] at h
      exact (mrg_comm RA RB (mrgE_zero h)).symm
    · rfl
  obtain ⟨e0, he0⟩ : ∃ e0, mrgF a b = e0 := ⟨_, rfl⟩
  obtain ⟨ab, hab⟩ : ∃ ab, mrgV a b = ab := ⟨_, rfl⟩
  obtain ⟨g0, hg0⟩ : ∃ g0, mrgF b c = g0 := ⟨_, rfl⟩
  obtain ⟨bc, hbc⟩ : ∃ bc, mrgV b c = bc := ⟨_, rfl⟩
  simp only [q1, q2] at MAA
  simp only [q3, q4, he0, hab] at MBA
  simp only [he0, hab] at MAB
  simp only [hg0, hbc] at MBC
  have lab : ab.length ≤ 400 := by rw [← hab]; exact mrgV_len a b
  have lbc : bc.length ≤ 400 := by rw [← hbc]; exact mrgV_len b c
  have HE0 := Lib.hid he0
  have HAB := Lib.hid hab
  have HG0 := Lib.hid hg0
  have HBC := Lib.hid hbc
  clear he0 hab hg0 hbc
  have HMAA := Lib.hid MAA
  have HMAB := Lib.hid MAB
  have HMBA := Lib.hid MBA
  have HMBC := Lib.hid MBC
  have HR := Lib.hid (And.intro RA (And.intro RB RC))
  have HQ := Lib.hid (mrgF_rec RA RB)
  have HQ2 := Lib.hid (mrgF_rec RB RC)
  clear hla hlb hlc h1 h2 h3 RA RB RC q1 q2 q3 q4 MAA MAB MBA MBC
  go_enter Try.func3, Try.ntmps3
  go_wp2_with fail
  with_reducible refine (HA.out w (Kp.refl _ _)).mono ?_
  rintro e w1 ⟨rfl, hk1⟩
  go_wp2_with fail
  with_reducible refine (HB.out w1 hk1).mono ?_
  rintro e w2 ⟨rfl, hk12⟩
  have hk2 := hk1.tr hk12
  go_wp2_with fail
  with_reducible refine (HC.out w2 hk2).mono ?_
  rintro e w3 ⟨rfl, hk23⟩
  have hk3 := hk2.tr hk23
  clear hk1 hk12 hk2 hk23
  go_wp2_with fail
  with_reducible refine (HMAA.out w3 hk3).mono ?_
  rintro e w4 ⟨v4, rfl, ho4, hk34⟩
  have hk4 := hk3.tr hk34
  obtain ⟨A4, c4, rfl, r4, _⟩ := own_rd ho4
  clear hk3 hk34 ho4
  go_wp2_with fail
  with_reducible refine (sameW_any A4 A a.length n c4 ca a a w4 r4 (HX.out.1.no hk4) (by omega)).mono ?_
  rintro e w5 ⟨rfl, hk45⟩
  rw [decide_eq_true (rfl : a = a)]
  have hk5 := hk4.tr hk45
  clear hk4 hk45 r4
  go_wp2_with fail
  with_reducible refine (HMAB.out w5 hk5).mono ?_
  rintro e w6 ⟨v6, rfl, ho6, hk56⟩
  have hk6 := hk5.tr hk56
  go_wp2_with fail
  with_reducible refine (HMBA.out w6 hk6).mono ?_
  rintro e w7 ⟨v7, rfl, ho7, hk67⟩
  have hk7 := hk6.tr hk67
  obtain ⟨A6, c6, rfl, r6', n6⟩ := own_rd ho6
  have r6 := r6'.no hk67
  obtain ⟨A7, c7, rfl, r7, _⟩ := own_rd ho7
  clear hk5 hk56 hk6 hk67 ho6 ho7 r6'
  have N6 := Lib.hid n6
  clear n6
  go_wp2_with fail
  with_reducible refine (sameW_any A6 A7 ab.length ab.length c6 c7 ab ab w7 r6 r7 (by omega)).mono ?_
  rintro e w8 ⟨rfl, hk78⟩
  rw [decide_eq_true (rfl : ab = ab)]
  have hk8 := hk7.tr hk78
  replace r6 := r6.no hk78
  clear hk7 hk78 r7
  go_wp2_with fail
  with_reducible refine (HMBC.out w8 hk8).mono ?_
  rintro e w9 ⟨v9, rfl, ho9, hk89⟩
  have hk9 := hk8.tr hk89
  obtain ⟨A9, c9, rfl, r9, n9⟩ := own_rd ho9
  replace r6 := r6.no hk89
  clear hk8 hk89 ho9
  have N9 := Lib.hid n9
  clear n9
  by_cases hh1 : e0 = 0
  rotate_left
  · have q1 : (e0 != 0) = true := by rw [bne_iff_ne]; exact hh1
    clear hh1
    go_wp2_with fail
    with_reducible refine (awake_any w9).mono ?_
    rintro e w10 ⟨rfl, hk10⟩
    go_wp2_with fail
    go_ret
    exact ⟨rfl, hk9.tr hk10⟩
  by_cases hh2 : g0 = 0
  rotate_left
  · have q1 : (g0 != 0) = true := by rw [bne_iff_ne]; exact hh2
    subst hh1
    clear hh2
    go_wp2_with fail
    with_reducible refine (awake_any w9).mono ?_
    rintro e w10 ⟨rfl, hk10⟩
    go_wp2_with fail
    go_ret
    exact ⟨rfl, hk9.tr hk10⟩
  subst hh1 hh2
  have eE : mrgE a b = 0 := HQ.out.symm.trans HE0.out
  have eG : mrgE b c = 0 := HQ2.out.symm.trans HG0.out
  have eab : mrgL a b = ab := by rw [← HAB.out]; unfold mrgV; rw [if_pos HE0.out]
  have ebc : mrgL b c = bc := by rw [← HBC.out]; unfold mrgV; rw [if_pos HG0.out]
  have hAS := mrg_assoc HR.out.1 HR.out.2.1 HR.out.2.2 eE eG
  have RAB := mrg_rec HR.out.1 HR.out.2.1 eE
  have RBC := mrg_rec HR.out.2.1 HR.out.2.2 eG
  rw [eab] at RAB
  rw [ebc] at RBC
  rw [eab, ebc] at hAS
  have u1 : mrgF a bc = mrgF ab c := by rw [mrgF_rec HR.out.1 RBC, mrgF_rec RAB HR.out.2.2]; exact hAS.1.symm
  have u2 : mrgV a bc = mrgV ab c := by
    unfold mrgV
    rw [u1]
    split
    · rename_i h
      rw [mrgF_rec RAB HR.out.2.2] at h
      exact (hAS.2 h).symm
    · rfl
  have u3 : mrgF ab c = 0 → chkL (mrgV ab c) = 0 := fun h => by
    have h' := h
    rw [mrgF_rec RAB HR.out.2.2] at h'
    unfold mrgV
    rw [if_pos h]
    exact rec_chk (mrg_rec RAB HR.out.2.2 h')
  have fab : Fits ab := by rw [← HAB.out]; exact fits_mrg F.out.1 F.out.2.1
  have fbc : Fits bc := by rw [← HBC.out]; exact fits_mrg F.out.2.1 F.out.2.2
  have fxy : Fits (mrgV ab c) := fits_mrg fab F.out.2.2
  have MX := Merge_any A6 ab.length c6 ab C k cc c w9 r6 (HX.out.2.2.no hk9) fab F.out.2.2 N6.out
  have MY := fun w' (kk : Kp No w9 w') => Merge_any A n ca a A9 bc.length c9 bc w' (HX.out.1.no (hk9.tr kk)) (r9.no kk) F.out.1 fbc N.out.1
  simp only [u1, u2] at MY
  have lxy := mrgV_len ab c
  obtain ⟨f0, hf0⟩ : ∃ f0, mrgF ab c = f0 := ⟨_, rfl⟩
  obtain ⟨xy, hxy⟩ : ∃ xy, mrgV ab c = xy := ⟨_, rfl⟩
  simp only [hf0, hxy] at MX MY u3 fxy lxy
  have HMY := Lib.hid MY
  have HFX := Lib.hid fxy
  have HU3 := Lib.hid u3
  clear eE eG eab ebc hAS RAB RBC u1 u2 u3 fab fbc fxy MY hf0 hxy r9 r6
  go_wp2_with fail
  with_reducible refine MX.mono ?_
  rintro e w10 ⟨v10, rfl, ho10, hk910⟩
  have hk10 := hk9.tr hk910
  obtain ⟨A10, c10, rfl, r10, _⟩ := own_rd ho10
  clear ho10 MX
  go_wp2_with fail
  with_reducible refine (HMY.out w10 hk910).mono ?_
  rintro e w11 ⟨v11, rfl, ho11, hk1011⟩
  have hk11 := hk10.tr hk1011
  obtain ⟨A11, c11, rfl, r11, _⟩ := own_rd ho11
  replace r10 := r10.no hk1011
  clear ho11 hk910 hk1011 hk9 hk10
  go_wp2_with fail
  with_reducible refine (sameW_any A10 A11 xy.length xy.length c10 c11 xy xy w11 r10 r11 (by omega)).mono ?_
  rintro e w12 ⟨rfl, hk1112⟩
  rw [decide_eq_true (rfl : xy = xy)]
  have hk12 := hk11.tr hk1112
  replace r10 := r10.no hk1112
  replace r11 := r11.no hk1112
  clear hk11 hk1112
  have HR10 := Lib.hid r10
  have HR11 := Lib.hid r11
  clear r10 r11
  go_wp2_with fail
  with_reducible refine (State_any A10 xy.length c10 xy w12 HR10.out HFX.out).mono ?_
  rintro e w13 ⟨v13, s, rfl, hs, ho13, hk1213⟩
  have hk13 := hk12.tr hk1213
  have HS := Lib.hid hs
  have HO13 := Lib.hid ho13
  clear hs ho13
  go_wp2_with fail
  with_reducible refine (State_any A11 xy.length c11 xy w13 (HR11.out.no hk1213) HFX.out).mono ?_
  rintro e w14 ⟨v14, s', rfl, hs', ho14, hk1314⟩
  have hk14 := hk13.tr hk1314
  obtain rfl := stRes_uniq HS.out hs'
  obtain ⟨A13, c13, rfl, r13⟩ := own_rdP (hk1314.owns HO13.out fun _ _ h => h)
  obtain ⟨A14, c14, rfl, r14⟩ := own_rdP ho14
  have hsl : s.length ≤ 100000000 := by
    have hs := HS.out
    unfold StRes at hs
    split at hs
    · rename_i h0
      have hnd := pv_nodup hs.1
      have h1 := nodup_lenP (s.map Pv.p) ((cws xy).map Wk.pp) (by
        rw [List.nodup_iff_pairwise_ne, List.pairwise_map]
        exact hs.1.imp fun {x y} h e => by rw [e, ltP_irr] at h; cases h) fun p hp => by
          obtain ⟨v, hv, rfl⟩ := List.mem_map.1 hp
          obtain ⟨u, hu, e⟩ := stOf_some.1 (by rw [(hs.2 v).1 hv]; rfl : (stOf (cws xy) v.p).isSome = true)
          exact List.mem_map.2 ⟨u, hu, e⟩
      rw [List.length_map, List.length_map] at h1
      have h2 := cntU_len xy xy.length
      unfold cws cntL at h1
      rw [List.length_map] at h1
      omega
    · rw [hs]
      decide
  clear hs' ho14 hk1213 hk1314 hk13 hk12 HO13 HS
  by_cases hf : f0 = 0
  · have hc0 := HU3.out hf
    rw [hc0]
    subst hf
    clear hc0
    go_wp2_with fail
    with_reducible refine (sameS_any A13 A14 s.length s.length c13 c14 s s w14 r13 r14 (by omega)).mono ?_
    rintro e w15 ⟨rfl, hk15⟩
    rw [decide_eq_true (rfl : s = s)]
    go_wp2_with fail
    with_reducible refine (awake_any w15).mono ?_
    rintro e w16 ⟨rfl, hk16⟩
    go_wp2_with fail
    go_ret
    exact ⟨rfl, (hk14.tr hk15).tr hk16⟩
  · have q1 : (f0 != 0) = true := by rw [bne_iff_ne]; exact hf
    clear hf
    go_wp2_with fail
    with_reducible refine (awake_any w14).mono ?_
    rintro e w16 ⟨rfl, hk16⟩
    go_wp2_with fail
    go_ret
    exact ⟨rfl, hk14.tr hk16⟩
theorem tsame_any (A B C : Option Addr) (n m k ca cb cc : Nat) (a b c : List Wk) (w : World) (hx : RdW w A n a) (hy : RdW w B m b) (hz : RdW w C k c) (fa : Fits a) (fb : Fits b) (fc : Fits c) (ha : n ≤ ca) (hb : m ≤ cb) (hc : k ≤ cc)
    (nA : A = none → n = 0 ∧ ca = 0) (nB : B = none → m = 0 ∧ cb = 0) (nC : C = none → k = 0 ∧ cc = 0) :
    Calls Try.prog 3 #[.slice A n ca, .slice B m cb, .slice C k cc] w fun e w' => e = .returned (.bool true) ∧ Kp No w w' := by
  by_cases h1 : chkL a = 0
  · by_cases h2 : chkL b = 0
    · by_cases h3 : chkL c = 0
      · exact tsame_ok A B C n m k ca cb cc a b c w hx hy hz fa fb fc ha hb hc nA nB nC h1 h2 h3
      · exact tsame_bad3 A B C n m k ca cb cc a b c w hx hy hz fa fb fc ha hb hc nA nB nC h1 h2 h3
    · exact tsame_bad2 A B C n m k ca cb cc a b c w hx hy hz fa fb fc ha hb hc nA nB nC h1 h2
  · exact tsame_bad1 A B C n m k ca cb cc a b c w hx hy hz fa fb fc ha hb hc nA nB nC h1
end Go.Proofs.Ytjbpdimepckmfaa
