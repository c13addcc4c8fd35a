/- Chapter 33: the walk of the statement TransferLeast. -/
import Derived.Test.YtfflhlmnfhfcgaaXAwkM
namespace Go.Proofs.Ytfflhlmnfhfcgaa
open Go.RowKit Go.Kq

theorem best_facts {xs ys : List Vc} {most : Int} {out : List Nat} {c : Int} (h : bestV xs ys most = (out, c, 0)) :
    chk xs ys 14 = 0 ∧ 0 ≤ most ∧ most ≤ 14 ∧ c = Cst xs ys out ∧ Asc ys.length 0 out ∧ (out.length : Int) ≤ most ∧ ∀ O, Asc ys.length 0 O → (O.length : Int) ≤ most → c < Cst xs ys O ∨ (c = Cst xs ys O ∧ out.length ≤ O.length) := by
  unfold bestV at h
  by_cases he : chk xs ys 14 = 0
  · rw [if_neg (by omega)] at h
    by_cases hm : most < 0 ∨ 14 < most
    · rw [if_pos hm] at h
      simp at h
    · rw [if_neg hm] at h
      have hf := fold_best (Cst xs ys) (subsAt ys.length most.toNat ys.length [] 0) ([], Cst xs ys []) rfl
      generalize (subsAt ys.length most.toNat ys.length [] 0).foldl (better (Cst xs ys)) ([], Cst xs ys []) = r at h hf
      obtain ⟨o, c'⟩ := r
      simp only [Prod.mk.injEq, and_true] at h
      obtain ⟨rfl, rfl⟩ := h
      obtain ⟨h1, h2, h3⟩ := hf
      have key : Asc ys.length 0 o ∧ (o.length : Int) ≤ most := by
        rcases h2 with h2 | h2
        · replace h2 : o = [] := h2
          subst h2
          exact ⟨trivial, by simp; omega⟩
        · obtain ⟨T, t1, t2, t3, t4⟩ := (subs_iff _ _ _ _ _ _ (by omega)).1 h2
          replace t2 : o = T := t2
          subst t2
          replace t4 : o.length ≤ most.toNat := t4
          exact ⟨t3, by omega⟩
      refine ⟨he, by omega, by omega, h1, key.1, key.2, fun O hO hl => h3 O ?_⟩
      by_cases hn : O = []
      · exact .inl hn
      · exact .inr ((subs_iff _ _ _ _ _ _ (by omega)).2 ⟨O, hn, rfl, hO, by omega⟩)
  · rw [if_pos he] at h
    simp only [Prod.mk.injEq] at h
    exact absurd h.2.2 he
theorem Asc.snoc {k : Nat} : ∀ {i : Nat} {O : List Nat}, Asc k i O → i ≤ k → Asc (k + 1) i (O ++ [k])
  | i, [], _, hi => ⟨hi, by omega, trivial⟩
  | i, a :: O, h, _ => ⟨h.1, by have := h.2.1; omega, h.2.2.snoc (by have := h.2.1; omega)⟩
theorem Asc.up {n m : Nat} (hnm : n ≤ m) : ∀ {i : Nat} {O : List Nat}, Asc n i O → Asc m i O
  | _, [], _ => trivial
  | _, _ :: _, h => ⟨h.1, Nat.lt_of_lt_of_le h.2.1 hnm, h.2.2.up hnm⟩
theorem Asc.at {ys : List Vc} {n : Nat} (hn : n ≤ ys.length) : ∀ {i : Nat} {O : List Nat}, Asc n i O → ∀ (k j : Nat), O[k]? = some j → i ≤ j ∧ j < n ∧ ys[j]? = (sel ys O)[k]?
  | _, [], _, k, j, h => by simp at h
  | i, a :: O, h, k, j, hk => by
    obtain ⟨v, hv⟩ : ∃ v, ys[a]? = some v := ⟨_, List.getElem?_eq_getElem (by have := h.2.1; omega)⟩
    have hs : sel ys (a :: O) = v :: sel ys O := by unfold sel; rw [List.filterMap_cons, hv]
    rw [hs]
    cases k with
    | zero =>
      simp at hk
      subst hk
      exact ⟨h.1, h.2.1, by rw [hv]; rfl⟩
    | succ k =>
      have := Asc.at hn h.2.2 k j (by simpa using hk)
      exact ⟨by have := h.1; omega, this.2.1, by rw [this.2.2]; rfl⟩
theorem Asc.next {n : Nat} : ∀ {i : Nat} {O : List Nat}, Asc n i O → ∀ (k x y : Nat), O[k]? = some x → O[k + 1]? = some y → x < y
  | _, [], _, k, x, y, h, _ => by simp at h
  | i, a :: O, h, k, x, y, hx, hy => by
    cases k with
    | zero =>
      simp at hx hy
      subst hx
      cases O with
      | nil => simp at hy
      | cons b O =>
        simp at hy
        subst hy
        have := h.2.2.1
        omega
    | succ k => exact Asc.next h.2.2 k x y (by simpa using hx) (by simpa using hy)
theorem Asc.sel_len {ys : List Vc} {n : Nat} (hn : n ≤ ys.length) : ∀ {i : Nat} {O : List Nat}, Asc n i O → (sel ys O).length = O.length
  | _, [], _ => rfl
  | i, a :: O, h => by
    obtain ⟨v, hv⟩ : ∃ v, ys[a]? = some v := ⟨_, List.getElem?_eq_getElem (by have := h.2.1; omega)⟩
    have hs : sel ys (a :: O) = v :: sel ys O := by unfold sel; rw [List.filterMap_cons, hv]
    rw [hs, List.length_cons, List.length_cons, Asc.sel_len hn h.2.2]
theorem sel_snoc (ys : List Vc) (O : List Nat) (k : Nat) (v : Vc) (h : ys[k]? = some v) : sel ys (O ++ [k]) = sel ys O ++ [v] := by
  simp [sel, h]
theorem chk_sel {xs ys : List Vc} {O : List Nat} (h : chk xs ys 14 = 0) (hO : O.length ≤ 14) : chk xs (sel ys O) 24 = 0 := by
  obtain ⟨h1, h2, h3, h4⟩ := chk_zero h
  have := sel_len ys O
  refine chk_ok (by omega) ?_
  simp only [Bool.or_eq_false_iff, List.any_eq_false]
  exact ⟨fun v hv => by rw [h3 v hv]; simp, fun v hv => by rw [h4 v (sel_mem hv)]; simp⟩

set_option maxHeartbeats 4000000 in
set_option maxRecDepth 100000 in
theorem least_any (A Y : Option Addr) (n m ca cb : Nat) (xs ys : List Vc) (most set : Int) (w : World) (hx : RdV w A n xs) (hy : RdV w Y m ys) :
    Calls Try.prog 4 #[.slice A n ca, .slice Y m cb, .agg #[.int .i64 most, .int .i64 set]] w fun e w' => e = .returned (.bool true) ∧ Kp No w w' := by
  obtain ⟨i0, hi0, hz0, hz1, hz2⟩ := info_parts info38
  have hxl := hx.1
  have hyl := hy.1
  rcases hb : bestV xs ys most with ⟨out, c, er⟩
  by_cases he : er = 0
  · subst he
    obtain ⟨hck, hm0, hm14, hcc, hasc, hol, hmin⟩ := best_facts hb
    obtain ⟨z1, z2, _, _⟩ := chk_zero hck
    have HB := Lib.hid hb
    have HCC := Lib.hid hcc
    have HAS := Lib.hid hasc
    have HMIN := Lib.hid hmin
    clear hb hcc hasc hmin
    go_enter Try.func4, Try.ntmps4
    go_wp2_with fail
    go_quiet (fail)
    go_wp2_with fail
    refine (Best_any A Y n m ca cb xs ys most _ (hx.no ((Kp.alloc _ _ _).tr (Kp.drewN _ _ nq))) (hy.no ((Kp.alloc _ _ _).tr (Kp.drewN _ _ nq)))).mono ?_
    rw [HB.out]
    rintro e w1 ⟨v, rfl, ho1, hk1⟩
    obtain ⟨a1, c1, rfl, hc1, hi1⟩ := own_rdi ho1
    have hK1 := ((Kp.alloc No w (.cells #[.int .i64 most, .int .i64 set] 30)).tr (Kp.drewN _ _ nq)).tr hk1
    clear ho1 hk1
    have I1 := Lib.hid hi1
    clear hi1
    go_wp2_with fail

    refine (Check_any A Y n m ca cb xs ys 14 w1 (hx.no hK1) (hy.no hK1) (by omega)).mono ?_
    rw [hck]
    rintro e w2 ⟨rfl, hk2⟩
    have hK2 := hK1.tr hk2
    have h1 : ¬ most < 0 := by omega
    have h2 : ¬ 14 < most := by omega
    have h3 : ¬ most < out.length := by omega
    have hml : m ≤ ys.length := by omega
    go_wp2_with fail
    refine (chosen_any Y a1 m out.length cb c1 ys (sel ys out) out w2 (hy.no hK2) (I1.out.no hk2) (by omega) (by omega) (HAS.out.sel_len (Nat.le_refl _)) (fun k i hi => by have := HAS.out.at (Nat.le_refl _) k i hi; exact ⟨by omega, this.2.2⟩) (fun k i j hi hj => HAS.out.next k i j hi hj)).mono ?_
    rintro e w3 ⟨v3, rfl, ho3, hk3⟩
    obtain ⟨a3, c3, rfl, hc3, hr3⟩ := own_rdv ho3
    have hK3 := hK2.tr hk3
    have hz24 := chk_sel hck (O := out) (by omega)
    clear ho3 hK1 hK2 hk2 hk3
    go_wp2_with fail
    refine (Cost_any A a3 n out.length ca c3 xs (sel ys out) w3 (hx.no hK3) hr3).mono ?_
    rintro e w4 ⟨c', rfl, _, hIs, hk4⟩
    have hc' : c' = c := (cst_sel (hIs hz24)).trans HCC.out.symm
    subst hc'
    rw [hz24]
    have hK4 := hK3.tr hk4
    clear hr3 hIs hK3 hk4 hz24
    go_wp2_with fail
    go_loopw [16, 17] (fun s i wr => ∃ (k : Nat) (O : List Nat), k ≤ m ∧ i = .int .i64 k ∧ wr.ownsRow w4.heap.size 38 4 s O.length (flat (sel ys O)) ∧ Asc k 0 O ∧ (O.length : Int) ≤ most ∧ Kp No w4 wr) (fun s i _ => m - (intOf i).toNat)
    case atStart => exact ⟨0, [], by omega, rfl, ⟨rfl, .inl ⟨rfl, rfl⟩⟩, trivial, by simpa using hm0, Kp.refl _ _⟩
    case round =>
      obtain ⟨k, O, hk, rfl, hown, hasc, hOl, hkp⟩ := hrel
      obtain ⟨ao, co, rfl, hco, hro⟩ := own_rdv hown
      have HO := Lib.hid hown
      have HR := Lib.hid hro
      have HA := Lib.hid hasc
      clear hown hro hasc
      by_cases hlt : k < m
      · obtain ⟨v, hv⟩ : ∃ v, ys[k]? = some v := ⟨_, List.getElem?_eq_getElem (by omega)⟩
        obtain ⟨b, o, rfl, hb, v0, v1, v2, v3⟩ := (hy.no (hK4.tr hkp)).2 k v hv
        have HV := Lib.hid hv
        clear hv
        by_cases hlm : (O.length : Int) < most
        · go_wp2_with (at_builtin; refine stop_in ?_)
          · refine stop_out ?_
            refine wpList_append_own_at _ rfl _ _ 22 rfl w4.heap.size 38 i0 (.agg #[.int .i64 0, .int .i64 0, .int .i64 0, .int .i64 0]) 4 32 Try.underlying22 hi0 hz0 hz1 hz2 rfl (by decide) (.slice ao O.length co) O.length (flat (sel ys O)) rfl (HO.out.alloc _) ⟨wr.heap.size, 0, none⟩ 1 1 v.cells4 rfl rfl (new4 _ v) (cells4_one v) (by unfold maxLen; omega) (by omega) (by have := hkp.size; simp; omega) ?_
            intro v' w5 hown' hgrow hnil hat
            have hk5 : Kp No w4 w5 := hkp.trans ((Kp.alloc (fun g => w4.heap.size ≤ g) _ _).tr (Kp.grown hgrow fun g hg _ => (own_ge HO.out hg).1)) (fun g hg h => absurd h (Nat.not_le.2 hg))
            rw [← flat_snoc, ← sel_snoc ys O k v HV.out] at hown'
            have HO5 := Lib.hid hown'
            have HK5 := Lib.hid hk5
            clear hown' hgrow hnil hat hk5
            go_wp2_with fail
            go_roundw
            case rel => exact ⟨k + 1, O ++ [k], by omega, by go_num, by rw [List.length_append]; exact HO5.out, HA.out.snoc (by omega), by simp; omega, HK5.out⟩
            case measure => simp [intOf]; omega
          · go_roundw
            case rel => exact ⟨k + 1, O, by omega, by go_num, HO.out, HA.out.up (by omega), hOl, hkp⟩
            case measure => simp [intOf]; omega
        · go_wp2
          all_goals
            go_roundw
            case rel => exact ⟨k + 1, O, by omega, by go_num, HO.out, HA.out.up (by omega), hOl, hkp⟩
            case measure => simp [intOf]; omega
      · obtain rfl : k = m := by omega
        have hO14 : O.length ≤ 14 := by omega
        go_wp2_with fail
        refine (Cost_any A ao n O.length ca co xs (sel ys O) wr (hx.no (hK4.tr hkp)) HR.out).mono ?_
        rintro e w5 ⟨c5, rfl, _, hIs, hk5⟩
        have hz := chk_sel hck hO14
        have hc5 : c5 = Cst xs ys O := cst_sel (hIs hz)
        rw [hz]
        have hmn := HMIN.out O (hyl.symm ▸ HA.out) hOl
        rw [← hc5] at hmn
        have KE := Lib.hid (hK4.tr (hkp.tr hk5))
        clear hIs hz hc5
        rcases hmn with hmn | ⟨rfl, hmn⟩
        · go_wp2_with fail
          refine (awake_any _).mono ?_
          rintro e w6 ⟨rfl, hk6⟩
          go_wp2_with fail
          go_ret
          exact ⟨rfl, KE.out.tr hk6⟩
        · have hmn2 : decide (out.length ≤ O.length) = true := by rw [decide_eq_true_iff]; exact hmn
          go_wp2_with fail
          refine (awake_any _).mono ?_
          rintro e w6 ⟨rfl, hk6⟩
          go_wp2_with fail
          go_ret
          exact ⟨rfl, KE.out.tr hk6⟩
  · have heb : (er == 0) = false := by rw [beq_eq_false_iff_ne]; exact he
    clear he
    have HB := Lib.hid hb
    clear hb
    go_enter Try.func4, Try.ntmps4
    go_wp2_with fail
    go_quiet (fail)
    go_wp2_with fail
    refine (Best_any A Y n m ca cb xs ys most _ (hx.no ((Kp.alloc _ _ _).tr (Kp.drewN _ _ nq))) (hy.no ((Kp.alloc _ _ _).tr (Kp.drewN _ _ nq)))).mono ?_
    rw [HB.out]
    rintro e w1 ⟨v, rfl, _, hk1⟩
    go_wp2_with fail
    refine (awake_any _).mono ?_
    rintro e w2 ⟨rfl, hk2⟩
    go_wp2_with fail
    go_ret
    exact ⟨rfl, ((Kp.alloc _ _ _).tr (Kp.drewN _ _ nq)).tr (hk1.tr hk2)⟩
end Go.Proofs.Ytfflhlmnfhfcgaa
