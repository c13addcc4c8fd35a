/- Chapter 24: the law's less. · Chapter 24: the law Best: what is known of a plan: plain. -/
import Derived.BigQuiet
import Derived.Test.YtakgcnjpmpcekaaXLwB
import Derived.Test.YtakgcnjpmpcekaaXRfI
namespace Go.Proofs.Ytakgcnjpmpcekaa
open Go.RowKit Go.Kq

set_option maxHeartbeats 8000000 in
set_option maxRecDepth 100000 in
theorem lessB_any (g1 g2 : Nat) (C A B : Option Addr) (n cc ca cb : Nat) (P Q : List (List Nat)) (w : World) (hA : RdL g1 w A n (intP P)) (hB : RdL g2 w B n (intP Q)) (hn : n ≤ 20) :
    Calls Try.prog 26 #[.slice C n cc, .slice A n ca, .slice B n cb] w fun e w' => e = .returned (.bool (lesB (lensN P) (lensN Q) ((n + 1) / 2))) ∧ Kp No w w' := by
  have HA := Lib.hid hA
  have HB := Lib.hid hB
  have HPL := Lib.hid (show P.length = n by rw [← hA.1, intP_len])
  have HQL := Lib.hid (show Q.length = n by rw [← hB.1, intP_len])
  clear hA hB
  obtain ⟨H, hH⟩ : ∃ H, H = (n + 1) / 2 := ⟨_, rfl⟩
  rw [← hH]
  rcases Nat.lt_or_ge 0 n with h0 | h0
  rotate_left
  · have HZ := Lib.hid (show lesB (lensN P) (lensN Q) H = false by rw [show H = 0 by omega]; rfl)
    obtain rfl : n = 0 := by omega
    rw [HZ.out]
    clear hH h0 hn
    go_enter Try.func26, Try.ntmps26
    go_wp2_with fail
    go_loopw [7] (fun i wr => i = .int .i64 0 ∧ wr = w) (fun _ _ => 0)
    case atStart => exact ⟨rfl, rfl⟩
    case round =>
      obtain ⟨rfl, hw⟩ := hrel
      subst hw
      go_wp2_with fail
      go_ret
      exact ⟨rfl, Kp.refl _ _⟩
  have hHi : ((n : Int) - 1) / 2 = (H : Int) - 1 := by omega
  have hHn : 2 * H ≤ n + 1 ∧ n ≤ 2 * H := by omega
  have HLS := Lib.hid (rfl : lesB (lensN P) (lensN Q) H = lesB (lensN P) (lensN Q) H)
  obtain ⟨RES, hRES⟩ : ∃ RES, RES = lesB (lensN P) (lensN Q) H := ⟨_, rfl⟩
  rw [← hRES]
  have HRES := Lib.hid hRES
  clear hH hRES HLS
  go_enter Try.func26, Try.ntmps26
  go_wp2_with fail
  go_loopw [7] (fun i wr => ∃ t : Nat, t ≤ H ∧ i = .int .i64 ((t : Int) - 1) ∧ RES = lesB (lensN P) (lensN Q) t ∧ ∃ q, wr = w.drewN q) (fun i _ => ((intOf i) + 1).toNat)
  case atStart => exact ⟨H, by omega, by first | rfl | exact congrArg (Value.int .i64) hHi, HRES.out, 0, rfl⟩
  case round =>
    obtain ⟨t, ht, rfl, hno, q, hq⟩ := hrel
    have HN := Lib.hid hno
    have HQ := Lib.hid hq
    have hkp : Kp No w wr := by rw [hq]; exact Kp.drewN _ _ _
    have HKP := Lib.hid hkp
    clear hno hq hkp
    rcases Nat.eq_zero_or_pos t with ht0 | ht0
    · have HF := Lib.hid (show RES = false by rw [HN.out, ht0]; rfl)
      have ht1 : t ≤ 0 := by omega
      clear ht0
      go_wp2_with fail
      go_ret
      exact ⟨ret_bool HF.out.symm, HKP.out⟩
    · obtain ⟨s, hs⟩ : ∃ s, t = s + 1 := ⟨t - 1, by omega⟩
      have hsi : (t : Int) - 1 = (s : Int) := by omega
      have hsn : s < n := by omega
      obtain ⟨S, hS⟩ : ∃ S, P[s]? = some S := ⟨_, List.getElem?_eq_getElem (by rw [HPL.out]; exact hsn)⟩
      obtain ⟨T, hT⟩ : ∃ T, Q[s]? = some T := ⟨_, List.getElem?_eq_getElem (by rw [HQL.out]; exact hsn)⟩
      obtain ⟨b1, o1, A1, n1, c1, rfl, hb1, hc1, _, r1, _⟩ := (HA.out.no HKP.out).2 s (cI S) (intP_get hS)
      obtain ⟨b2, o2, A2, n2, c2, rfl, hb2, hc2, _, r2, _⟩ := (HB.out.no HKP.out).2 s (cI T) (intP_get hT)
      have h1 : n1 = S.length := by rw [← r1.1, cI_len]
      have h2 : n2 = T.length := by rw [← r2.1, cI_len]
      have HL := Lib.hid (show lesB (lensN P) (lensN Q) t = if n1 ≠ n2 then decide (n1 < n2) else lesB (lensN P) (lensN Q) s by
        rw [hs]
        show (if (lensN P).getD s 0 ≠ (lensN Q).getD s 0 then decide ((lensN P).getD s 0 < (lensN Q).getD s 0) else lesB (lensN P) (lensN Q) s) = _
        have e1 : (lensN P).getD s 0 = n1 := by unfold lensN; rw [List.getD_eq_getElem?_getD, List.getElem?_map, hS, h1]; rfl
        have e2 : (lensN Q).getD s 0 = n2 := by unfold lensN; rw [List.getD_eq_getElem?_getD, List.getElem?_map, hT, h2]; rfl
        rw [e1, e2])
      have hbl1 := hb1.2
      have hbl2 := hb2.2
      clear hS hT r1 r2 h1 h2 hs hb1 hb2
      by_cases he : n1 = n2
      · have d1 : ((n1 : Int) != (n2 : Int)) = false := by simp; omega
        have HL2 := Lib.hid (show RES = lesB (lensN P) (lensN Q) s by rw [HN.out, HL.out, if_neg (fun h => h he)])
        clear he
        go_wp2_with fail
        go_quiet (fail)
        go_wp2_with fail
        go_roundw
        case rel => exact ⟨s, by omega, by go_num, HL2.out, q + nq, by rw [HQ.out, World.drewN_drewN]⟩
        case measure => simp [intOf]; omega
      · have d1 : ((n1 : Int) != (n2 : Int)) = true := by simp; omega
        have HL2 := Lib.hid (show RES = decide (n1 < n2) by rw [HN.out, HL.out, if_pos he])
        have d2 : decide ((n1 : Int) < (n2 : Int)) = decide (n1 < n2) := by rw [decide_eq_decide]; omega
        clear he
        go_wp2_with fail
        go_quiet (fail)
        go_wp2_with fail
        go_quiet (fail)
        go_wp2_with fail
        go_ret
        exact ⟨ret_bool HL2.out.symm, by rw [HQ.out] at *; exact HKP.out.tr ((Kp.drewN No _ _).tr (Kp.drewN No _ _))⟩
end Go.Proofs.Ytakgcnjpmpcekaa

namespace Go.Proofs.Ytakgcnjpmpcekaa
open Go.RowKit Go.Kq

theorem dvJ_toNat (L n : Nat) : ∀ (j at_ : Nat) (nums : List Int), dvJ L n j at_ nums = true → dvN L n j at_ (nums.map Int.toNat) = true
  | 0, at_, [], h => h
  | 0, _, _ :: _, h => by cases h
  | _ + 1, _, [], h => by cases h
  | j + 1, at_, x :: nums, h => by
    simp only [dvJ, Bool.and_eq_true, decide_eq_true_eq] at h
    obtain ⟨⟨h1, h2⟩, h3⟩ := h
    have ih := dvJ_toNat L n j _ nums h3
    show (decide (1 ≤ x.toNat) && decide (at_ + sizN L ((L + 1) / 2 - (j + 1)) * x.toNat ≤ n) && dvN L n j _ (nums.map Int.toNat)) = true
    rw [ih, decide_eq_true h2, decide_eq_true (show 1 ≤ x.toNat by omega)]
    rfl
theorem intP_flat (P : List (List Nat)) : (intP P).flatten = cI P.flatten := by
  unfold intP cI
  rw [List.map_flatten]
theorem pla_zero {l : List Fc} {ns : List Nat} {m : Nat} (hd : dvN l.length m ((l.length + 1) / 2) 0 ns = true) (hm : m ≤ 60) (k : Int) (hk : k = m ∨ k = -1) : plaE l.length (intP (planN l ns)) k = 0 := by
  have hp := plan_perm l ns m hd
  have hl : (intP (planN l ns)).length = l.length := by rw [intP_len]; unfold planN; simp
  have hf : (intP (planN l ns)).flatten.length = m := by rw [intP_flat, cI_len, hp.length_eq, List.length_range]
  unfold plaE
  rw [if_neg (by rw [hl, hf]; omega), if_neg]
  rw [Bool.not_eq_true, List.any_eq_false]
  intro x hx
  rw [intP_flat] at hx
  obtain ⟨y, hy, rfl⟩ := List.mem_map.1 hx
  have := List.mem_range.1 (hp.mem_iff.1 hy)
  unfold plaB
  simp
  omega
/-- What is known where a plan is found. -/
structure PlnK (l : List Fc) (r : List Int) (least : Int) (gs : List Nat) (v : Int) : Prop where
  list : plnL l r least = planN l gs
  dv : dvN l.length r.length ((l.length + 1) / 2) 0 gs = true
  wid : ∃ lo, widN l r (planN l gs) = some (v, lo) ∧ least ≤ lo
  best : ∀ ns u, refV l r least ns = some u → v ≤ u ∧ (u = v → lexB ns gs = false)
theorem pln_parts {l : List Fc} {r : List Int} {least : Int} (h : plnE l r least = 0 ∨ plnE l r least = 4) : chkF l = 0 ∧ pipE r = 0 ∧ oB least 0 10000000 = false := by
  have h3 : plnE l r least ≠ 2 ∧ plnE l r least ≠ 3 ∧ plnE l r least ≠ 6 := by omega
  have c4 : chkF l = 0 ∨ chkF l = 2 ∨ chkF l = 3 ∨ chkF l = 6 := by
    unfold chkF
    split
    · simp
    · split
      · simp
      · split <;> simp
  have p4 : pipE r = 0 ∨ pipE r = 2 ∨ pipE r = 3 := by
    unfold pipE
    split
    · simp
    · split <;> simp
  have hc : chkF l = 0 := by
    apply Classical.byContradiction
    intro hc
    unfold plnE at h3
    rw [if_pos hc] at h3
    omega
  have hp : pipE r = 0 := by
    apply Classical.byContradiction
    intro hp
    unfold plnE at h3
    rw [if_neg (fun x => x hc), if_pos hp] at h3
    omega
  refine ⟨hc, hp, ?_⟩
  cases ho : oB least 0 10000000
  · rfl
  · unfold plnE at h3
    rw [if_neg (fun x => x hc), if_neg (fun x => x hp), ho] at h3
    simp at h3
theorem pln_none {l : List Fc} {r : List Int} {least : Int} (h : plnE l r least = 4) (ns : List Nat) : refV l r least ns = none := by
  obtain ⟨hc, hp, ho⟩ := pln_parts (.inr h)
  have hlb : 0 ≤ least ∧ least ≤ 10000000 := by unfold oB at ho; simp at ho; omega
  cases hv : refV l r least ns with
  | none => rfl
  | some v =>
    have hb := (plan_best l r least (chk_ok hc).2.2 hlb.1 hlb.2 ns v hv).1
    unfold plnE at h
    rw [if_neg (fun x => x hc), if_neg (fun x => x hp), ho, hb] at h
    simp at h
theorem pln_known {l : List Fc} {r : List Int} {least : Int} (h : plnE l r least = 0) : ∃ gs v, PlnK l r least gs v := by
  obtain ⟨hc, hp, ho⟩ := pln_parts (.inl h)
  have hlb : 0 ≤ least ∧ least ≤ 10000000 := by unfold oB at ho; simp at ho; omega
  have hb : (bstN l r least ((l.length + 1) / 2) 0).2 = true := by
    cases hb : (bstN l r least ((l.length + 1) / 2) 0).2
    · unfold plnE at h
      rw [if_neg (fun x => x hc), if_neg (fun x => x hp), ho, hb] at h
      simp at h
    · rfl
  have hv := gr_val l r least (chk_ok hc).2.2 hlb.1 hlb.2 hb
  refine ⟨grN l r least (bstN l r least ((l.length + 1) / 2) 0).1 ((l.length + 1) / 2) 0, (bstN l r least ((l.length + 1) / 2) 0).1, ?_, ?_, ?_, fun ns u hu => ?_⟩
  · unfold plnL
    rw [if_pos h, std_plan]
  · cases hd : dvN l.length r.length ((l.length + 1) / 2) 0 (grN l r least (bstN l r least ((l.length + 1) / 2) 0).1 ((l.length + 1) / 2) 0)
    · rw [refV_false hd] at hv
      cases hv
    · rfl
  · have hd : dvN l.length r.length ((l.length + 1) / 2) 0 (grN l r least (bstN l r least ((l.length + 1) / 2) 0).1 ((l.length + 1) / 2) 0) = true := by
      cases hd : dvN l.length r.length ((l.length + 1) / 2) 0 (grN l r least (bstN l r least ((l.length + 1) / 2) 0).1 ((l.length + 1) / 2) 0)
      · rw [refV_false hd] at hv
        cases hv
      · rfl
    cases hw : widN l r (planN l (grN l r least (bstN l r least ((l.length + 1) / 2) 0).1 ((l.length + 1) / 2) 0)) with
    | none => rw [refV_none hw] at hv; cases hv
    | some p =>
      rw [refV_some hd hw] at hv
      obtain ⟨M, lo⟩ := p
      split at hv
      · rename_i hlo
        injection hv with hv
        exact ⟨lo, by rw [← hv], hlo⟩
      · cases hv
  · obtain ⟨_, h2, h3⟩ := plan_best l r least (chk_ok hc).2.2 hlb.1 hlb.2 ns u hu
    exact ⟨h2, h3⟩
/-- The program's Gap and Mirrored of a plan. -/
theorem PlnK.told {l : List Fc} {r : List Int} {least : Int} {gs : List Nat} {v : Int} (h : PlnK l r least gs v) (h0 : plnE l r least = 0) : gapE l r (intP (planN l gs)) = 0 ∧ gapG l r (intP (planN l gs)) = v ∧ mirE l (intP (planN l gs)) = 0 ∧ mirG l (intP (planN l gs)) = true := by
  obtain ⟨hc, hp, _⟩ := pln_parts (.inl h0)
  obtain ⟨lo, hw, _⟩ := h.wid
  have hz : widZ l r (intP (planN l gs)) = some (v, lo) := by rw [wid_int]; exact hw
  have hm := (pip_ok hp).1
  obtain ⟨g1, g2⟩ := wid_some hz hc hp (pla_zero h.dv hm _ (.inl rfl))
  have m1 : mirE l (intP (planN l gs)) = 0 := by
    unfold mirE
    rw [if_neg (fun x => x hc)]
    exact pla_zero h.dv hm _ (.inr rfl)
  refine ⟨g1, g2, m1, ?_⟩
  unfold mirG
  rw [if_pos m1]
  exact plan_mirror l gs (chk_ok hc).2.2 fun f hf => by
    have := kind_of ((chk_ok hc).2.1 f hf)
    omega
theorem dvN_len {L n j at_ : Nat} {ns : List Nat} (h : dvN L n j at_ ns = true) : ns.length = j := dv_len L n j at_ ns h
/-- No allowed division with the same gap has lesser numbers. -/
theorem PlnK.least {l : List Fc} {r : List Int} {least : Int} {gs : List Nat} {v : Int} (h : PlnK l r least gs v) {ns : List Nat} (hd : dvN l.length r.length ((l.length + 1) / 2) 0 ns = true) (hv : refV l r least ns = some v) : lesB (lensN (planN l ns)) (lensN (planN l gs)) ((l.length + 1) / 2) = false := by
  rw [les_lex l ns gs (dvN_len hd) (dvN_len h.dv) ((l.length + 1) / 2) 0 (by omega), List.drop_zero, List.drop_zero]
  exact (h.best ns v hv).2 rfl
end Go.Proofs.Ytakgcnjpmpcekaa
