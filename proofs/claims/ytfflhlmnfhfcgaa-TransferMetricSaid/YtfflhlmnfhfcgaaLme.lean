/- Chapter 33: law 6 (TransferMetric): its plain law and its walk. -/
import Derived.Test.YtfflhlmnfhfcgaaTrn
namespace Go.Proofs.Ytfflhlmnfhfcgaa
open Go.RowKit Go.Kq

theorem chk_ok2 {xs ys : List Vc} (hx : xs.length ≤ 24) (hy : ys.length ≤ 24) (bx : ∀ v ∈ xs, v.bad = false) (by_ : ∀ v ∈ ys, v.bad = false) : chk xs ys 24 = 0 := by
  refine chk_ok (by omega) ?_
  rw [Bool.or_eq_false_iff]
  constructor
  · exact List.any_eq_false.2 fun v hv => by rw [bx v hv]; simp
  · exact List.any_eq_false.2 fun v hv => by rw [by_ v hv]; simp
theorem univ_nodup (vs : List Vc) : (univ vs).Nodup := nodup_addAll 1 _ [] (by simp [keys])
theorem univ_len (vs : List Vc) : (univ vs).length ≤ vs.length := by
  have := len_addAll 1 vs []
  simpa [univ, keys] using this
theorem pos_of {xs : List Vc} (h : ∀ v ∈ xs, v.bad = false) : ∀ v ∈ xs, 0 < v.q := fun v hv => by
  have := h v hv
  simp [Vc.bad] at this
  omega
structure Metric (a b c bt : List Vc) : Prop where
  e1 : chk a b 24 = 0
  e2 : chk bt a 24 = 0
  e3 : chk b c 24 = 0
  e4 : chk a c 24 = 0
  e5 : chk a [] 24 = 0
  e6 : chk b [] 24 = 0
  e7 : chk b a 24 = 0
  sym : costV bt a = costV a b
  tri : costV a c ≤ costV a b + costV b c
  same : eqL (missV a []) (missV b []) = (costV a b == 0)
  lo : pow (missV a b) + pow (missV b a) ≤ costV a b
  hi : costV a b ≤ 7 * (pow (missV a b) + pow (missV b a))
  b1 : 0 ≤ costV a b ∧ costV a b ≤ 10000000
  b2 : 0 ≤ costV b c ∧ costV b c ≤ 10000000
  b3 : 0 ≤ costV a c ∧ costV a c ≤ 10000000
  p1 : 0 ≤ pow (missV a b)
  p2 : 0 ≤ pow (missV b a)
  q1 : ∀ v ∈ missV a b, 0 ≤ v.q ∧ v.q ≤ 100000
  q2 : ∀ v ∈ missV b a, 0 ≤ v.q ∧ v.q ≤ 100000
theorem miss_q {xs ys : List Vc} (h : chk xs ys 24 = 0) : ∀ v ∈ missV xs ys, 0 ≤ v.q ∧ v.q ≤ 100000 := fun v hv => by
  rw [missV_ok h, List.mem_filter] at hv
  obtain ⟨z1, z2, z3, z4⟩ := chk_zero h
  have hS : Srt (dif xs ys) := addL_srt _ _ (addL_srt _ _ trivial)
  have h1 := bal_at _ hS v hv.1
  rw [bal_dif] at h1
  have h2 := btw_bd (bad_sane z3) (bad_sane z4) v.key
  have h3 : 0 < v.q := of_decide_eq_true hv.2
  omega
theorem pow_nn {vs : List Vc} (h : ∀ v ∈ vs, 0 ≤ v.q ∧ v.q ≤ 100000) : 0 ≤ pow vs := tot_nn _ fun v hv => (h v hv).1
theorem metric {a b c bt : List Vc} (h1 : chk a b 24 = 0) (h2 : chk b c 24 = 0) (hp : bt.Perm b) : Metric a b c bt := by
  obtain ⟨la, lb, ba, bb⟩ := chk_zero h1
  obtain ⟨_, lc, _, bc⟩ := chk_zero h2
  have hlb : b.length ≤ 24 := by omega
  have hlc : c.length ≤ 24 := by omega
  have hlt : bt.length ≤ 24 := by rw [hp.length_eq]; exact hlb
  have bbt : ∀ v ∈ bt, v.bad = false := fun v hv => bb v (hp.mem_iff.1 hv)
  have sa := bad_sane ba
  have sb := bad_sane bb
  have sc := bad_sane bc
  obtain ⟨U, hU⟩ : ∃ U, U = univ (a ++ b ++ c) := ⟨_, rfl⟩
  have hnd : U.Nodup := by rw [hU]; exact univ_nodup _
  have hUl : U.length ≤ 72 := by
    have := univ_len (a ++ b ++ c)
    rw [hU]
    simp at this ⊢
    omega
  have ha : ∀ v ∈ a, v.key ∈ U := fun v hv => by rw [hU]; exact (mem_univ _ _).2 ⟨v, by simp [hv], rfl⟩
  have hb : ∀ v ∈ b, v.key ∈ U := fun v hv => by rw [hU]; exact (mem_univ _ _).2 ⟨v, by simp [hv], rfl⟩
  have hc : ∀ v ∈ c, v.key ∈ U := fun v hv => by rw [hU]; exact (mem_univ _ _).2 ⟨v, by simp [hv], rfl⟩
  have hbt : ∀ v ∈ bt, v.key ∈ U := fun v hv => hb v (hp.mem_iff.1 hv)
  have e2 : chk bt a 24 = 0 := chk_ok2 hlt la bbt ba
  have e4 : chk a c 24 = 0 := chk_ok2 la hlc ba bc
  have e5 : chk a [] 24 = 0 := chk_ok2 la (by simp) ba (fun v h => by cases h)
  have e6 : chk b [] 24 = 0 := chk_ok2 hlb (by simp) bb (fun v h => by cases h)
  have e7 : chk b a 24 = 0 := chk_ok2 hlb la bb ba
  have c1 : costV a b = canon (fun k => pw a k - pw b k) U := (costV_ok h1).trans (run_canon hnd fun v hv => hv.elim (ha v) (hb v))
  have c2 : costV bt a = canon (fun k => pw bt k - pw a k) U := (costV_ok e2).trans (run_canon hnd fun v hv => hv.elim (hbt v) (ha v))
  have c3 : costV b c = canon (fun k => pw b k - pw c k) U := (costV_ok h2).trans (run_canon hnd fun v hv => hv.elim (hb v) (hc v))
  have c4 : costV a c = canon (fun k => pw a k - pw c k) U := (costV_ok e4).trans (run_canon hnd fun v hv => hv.elim (ha v) (hc v))
  have pb : ∀ xs ys : List Vc, xs.length ≤ 24 → ys.length ≤ 24 → Sane xs → Sane ys → 0 ≤ canon (fun k => pw xs k - pw ys k) U ∧ canon (fun k => pw xs k - pw ys k) U ≤ 10000000 := fun xs ys hx hy sx sy => by
    have hcb := canon_bounds (fun k => pw xs k - pw ys k) U
    have ht := tot_bd (fun k => absI (pw xs k - pw ys k)) 4800 U fun k => by
      have := btw_bd sx sy k
      rw [bal_pw] at this
      exact absI_bd (by omega)
    omega
  have m1 : pow (missV a b) = tot (fun k => if 0 < pw a k - pw b k then pw a k - pw b k else 0) U := by
    rw [missV_ok h1]
    exact pow_filter hnd fun v hv => hv.elim (ha v) (hb v)
  have m2 : pow (missV b a) = tot (fun k => if 0 < pw b k - pw a k then pw b k - pw a k else 0) U := by
    rw [missV_ok e7]
    exact pow_filter hnd fun v hv => hv.elim (hb v) (ha v)
  have m3 : pow (missV a b) + pow (missV b a) = tot (fun k => absI (pw a k - pw b k)) U := by
    rw [m1, m2, ← tot_add]
    refine tot_congr U fun k _ => ?_
    unfold absI
    (repeat' split) <;> omega
  have cb := canon_bounds (fun k => pw a k - pw b k) U
  refine ⟨h1, e2, h2, e4, e5, e6, e7, ?_, ?_, ?_, ?_, ?_, ?_, ?_, ?_, pow_nn (miss_q h1), pow_nn (miss_q e7), miss_q h1, miss_q e7⟩
  · rw [c1, c2, ← canon_neg]
    congr 1
    funext k
    rw [pw_perm hp]
    omega
  · rw [c1, c3, c4]
    have := canon_add (fun k => pw a k - pw b k) (fun k => pw b k - pw c k) U
    rw [show (fun k => pw a k - pw c k) = fun k => pw a k - pw b k + (pw b k - pw c k) from funext fun k => by omega]
    exact this
  · rw [missV_nil e5, missV_nil e6, Bool.eq_iff_iff, eqL_iff, beq_iff_eq, dif_ext (pos_of ba) (pos_of bb), c1]
    constructor
    · intro h
      exact canon_of_zero fun k _ => by rw [h k]; omega
    · intro h k
      by_cases hk : k ∈ U
      · have := canon_zero h k hk
        omega
      · rw [pw_out fun v hv e => hk (by rw [← e]; exact ha v hv), pw_out fun v hv e => hk (by rw [← e]; exact hb v hv)]
  · rw [m3, c1]; exact cb.1
  · rw [m3, c1]; exact cb.2
  · rw [c1]; exact pb a b la hlb sa sb
  · rw [c3]; exact pb b c hlb hlc sb sc
  · rw [c4]; exact pb a c la hlc sa sc
theorem rot_perm {α : Type} (l : List α) (k : Nat) : (l.drop k ++ l.take k).Perm l := by
  have := (List.perm_append_comm (l₁ := l.drop k) (l₂ := l.take k))
  rwa [List.take_append_drop] at this
/-- turned, at whatever length. -/
theorem turned_all (A : Option Addr) (n cap y : Nat) (vs : List Vc) (w : World) (hx : RdV w A n vs) (hn : n ≤ 24) (hnc : n ≤ cap) (hy : y < 256) :
    Calls Try.prog 23 #[.slice A n cap, .int .u8 (y : Nat)] w fun e w' => ∃ A' c' bt, e = .returned (.slice A' n c') ∧ RdV w' A' n bt ∧ bt.Perm vs ∧ Kp No w w' := by
  rcases Nat.eq_zero_or_pos n with h0 | h0
  · subst h0
    refine (turned_nil A cap y w).mono fun e w' ⟨he, hw⟩ => ⟨none, 0, [], he, rdv_nil _ _, ?_, by rw [hw]; exact Kp.refl _ _⟩
    rw [List.length_eq_zero_iff.1 hx.1]
  · refine (turned_any A n cap y vs w hx hn hnc h0 hy).mono fun e w' ⟨v, he, ho, hk⟩ => ?_
    obtain ⟨a, c, rfl, _, hr⟩ := own_rd ho
    exact ⟨a, c, _, he, hr, rot_perm _ _, hk⟩

set_option maxHeartbeats 8000000 in
set_option maxRecDepth 100000 in
theorem tmetric_any (A B C : Option Addr) (n m r ca cb cc y : Nat) (a b c : List Vc) (w : World) (ha : RdV w A n a) (hb : RdV w B m b) (hc : RdV w C r c) (hmc : m ≤ cb) (hy : y < 256) :
    Calls Try.prog 6 #[.agg #[.slice A n ca, .slice B m cb, .slice C r cc], .int .u8 (y : Nat)] w fun e w' => e = .returned (.bool true) ∧ Kp No w w' := by
  by_cases h1 : chk a b 24 = 0
  · by_cases h2 : chk b c 24 = 0
    · have hlen := (chk_zero h1)
      have hm24 : m ≤ 24 := by have := hb.1; have := hlen.2.1; omega
      have HM := Lib.hid (fun (bt : List Vc) (hp : bt.Perm b) => metric h1 h2 hp)
      have HH := Lib.hid (And.intro h1 h2)
      clear h1 h2 hlen
      go_enter Try.func6, Try.ntmps6
      go_wp2_with fail
      go_quiet (fail)
      have K0 := Lib.hid ((Kp.alloc No w (.cells #[.slice A n ca, .slice B m cb, .slice C r cc] 46)).tr (Kp.drewN No _ nq))
      generalize (w.alloc (.cells #[.slice A n ca, .slice B m cb, .slice C r cc] 46)).drewN nq = w0 at *
      have HA := Lib.hid (ha.no K0.out)
      have HB := Lib.hid (hb.no K0.out)
      have HC := Lib.hid (hc.no K0.out)
      clear ha hb hc
      go_wp2_with fail
      refine (Check_any A B n m ca cb a b 24 _ HA.out HB.out (by omega)).mono ?_
      rw [HH.out.1]
      rintro e w1 ⟨rfl, hk1⟩
      have K1 := Lib.hid hk1
      clear hk1
      go_wp2_with fail
      refine (Check_any B C m r cb cc b c 24 _ (HB.out.no K1.out) (HC.out.no K1.out) (by omega)).mono ?_
      rw [HH.out.2]
      rintro e w2 ⟨rfl, hk2⟩
      have K2 := Lib.hid (K1.out.tr hk2)
      clear hk2
      have MB := Lib.hid (HM.out b (List.Perm.refl b))
      generalize hab : costV a b = ab
      have HAB := Lib.hid hab
      clear hab
      go_wp2_with fail
      refine (Cost2_any A B n m ca cb a b _ (HA.out.no K2.out) (HB.out.no K2.out)).mono ?_
      rw [HAB.out, MB.out.e1]
      rintro e w3 ⟨rfl, hk3⟩
      have K3 := Lib.hid (K2.out.tr hk3)
      clear hk3
      go_wp2_with fail
      refine (turned_all B m cb y b _ (HB.out.no K3.out) hm24 hmc hy).mono ?_
      rintro e w4 ⟨A', c', bt, rfl, hbt, hperm, hk4⟩
      have MT := Lib.hid (HM.out bt hperm)
      have HT := Lib.hid hbt
      have K4 := Lib.hid (K3.out.tr hk4)
      clear hk4 hbt hperm
      go_wp2_with fail
      refine (Cost2_any A' A m n c' ca bt a _ HT.out (HA.out.no K4.out)).mono ?_
      rw [MT.out.sym, HAB.out, MT.out.e2]
      rintro e w5 ⟨rfl, hk5⟩
      have K5 := Lib.hid (K4.out.tr hk5)
      clear hk5
      generalize hbc : costV b c = bc
      have HBC := Lib.hid hbc
      clear hbc
      go_wp2_with fail
      refine (Cost2_any B C m r cb cc b c _ (HB.out.no K5.out) (HC.out.no K5.out)).mono ?_
      rw [HBC.out, MB.out.e3]
      rintro e w6 ⟨rfl, hk6⟩
      have K6 := Lib.hid (K5.out.tr hk6)
      clear hk6
      generalize hac : costV a c = ac
      have HAC := Lib.hid hac
      clear hac
      go_wp2_with fail
      refine (Cost2_any A C n r ca cc a c _ (HA.out.no K6.out) (HC.out.no K6.out)).mono ?_
      rw [HAC.out, MB.out.e4]
      rintro e w7 ⟨rfl, hk7⟩
      have K7 := Lib.hid (K6.out.tr hk7)
      clear hk7
      generalize hX : missV a [] = X
      have HX := Lib.hid hX
      clear hX
      go_wp2_with fail
      refine (Profile_any A n ca a _ (HA.out.no K7.out)).mono ?_
      rw [HX.out, MB.out.e5]
      rintro e w8 ⟨v8, rfl, ho8, hk8⟩
      obtain ⟨a8, c8, rfl, _, r8⟩ := own_rd ho8
      have K8 := Lib.hid (K7.out.tr hk8)
      have R8 := Lib.hid r8
      clear hk8 ho8 r8
      generalize hY : missV b [] = Y
      have HY := Lib.hid hY
      clear hY
      go_wp2_with fail
      refine (Profile_any B m cb b _ (HB.out.no K8.out)).mono ?_
      rw [HY.out, MB.out.e6]
      rintro e w9 ⟨v9, rfl, ho9, hk9⟩
      obtain ⟨a9, c9, rfl, _, r9⟩ := own_rd ho9
      have K9 := Lib.hid (K8.out.tr hk9)
      have R8b := Lib.hid (R8.out.no hk9)
      have R9 := Lib.hid r9
      clear hk9 ho9 r9
      generalize hP : missV a b = P
      have HP := Lib.hid hP
      clear hP
      go_wp2_with fail
      refine (Missing_any A B n m ca cb a b _ (HA.out.no K9.out) (HB.out.no K9.out)).mono ?_
      rw [HP.out, MB.out.e1]
      rintro e w10 ⟨v10, rfl, ho10, hk10⟩
      obtain ⟨a10, c10, rfl, _, r10⟩ := own_rd ho10
      have K10 := Lib.hid (K9.out.tr hk10)
      have R8c := Lib.hid (R8b.out.no hk10)
      have R9c := Lib.hid (R9.out.no hk10)
      have R10 := Lib.hid r10
      clear hk10 ho10 r10
      generalize hQ : missV b a = Q
      have HQ := Lib.hid hQ
      clear hQ
      go_wp2_with fail
      refine (Missing_any B A m n cb ca b a _ (HB.out.no K10.out) (HA.out.no K10.out)).mono ?_
      rw [HQ.out, MB.out.e7]
      rintro e w11 ⟨v11, rfl, ho11, hk11⟩
      obtain ⟨a11, c11, rfl, _, r11⟩ := own_rd ho11
      have K11 := Lib.hid (K10.out.tr hk11)
      have R8d := Lib.hid (R8c.out.no hk11)
      have R9d := Lib.hid (R9c.out.no hk11)
      have R10d := Lib.hid (R10.out.no hk11)
      have R11 := Lib.hid r11
      clear hk11 ho11 r11
      have lenP : P.length ≤ 1000 := by rw [← HP.out]; exact missV_len _ _
      have lenQ : Q.length ≤ 1000 := by rw [← HQ.out]; exact missV_len _ _
      have lenX : X.length ≤ 1000 := by rw [← HX.out]; exact missV_len _ _
      go_wp2_with fail
      refine (power_any a10 P.length c10 P _ R10d.out lenP (by have := MB.out.q1; rw [HP.out] at this; exact this)).mono ?_
      generalize hp1 : pow P = p1
      have HP1 := Lib.hid hp1
      clear hp1
      rintro e w12 ⟨rfl, hk12⟩
      have K12 := Lib.hid (K11.out.tr hk12)
      have R8e := Lib.hid (R8d.out.no hk12)
      have R9e := Lib.hid (R9d.out.no hk12)
      have R11e := Lib.hid (R11.out.no hk12)
      clear hk12
      go_wp2_with fail
      refine (power_any a11 Q.length c11 Q _ R11e.out lenQ (by have := MB.out.q2; rw [HQ.out] at this; exact this)).mono ?_
      generalize hp2 : pow Q = p2
      have HP2 := Lib.hid hp2
      clear hp2
      rintro e w13 ⟨rfl, hk13⟩
      have K13 := Lib.hid (K12.out.tr hk13)
      have R8f := Lib.hid (R8e.out.no hk13)
      have R9f := Lib.hid (R9e.out.no hk13)
      clear hk13
      have q1 := MB.out.lo
      have q2 := MB.out.hi
      have q3 := MB.out.b1
      have q4 := MB.out.b2
      have q5 := MB.out.b3
      have q6 := MB.out.tri
      have q7 := MB.out.p1
      have q8 := MB.out.p2
      have q9 := MB.out.same
      rw [HAB.out, HX.out, HY.out] at q9
      rw [HAB.out] at q1 q2 q3 q6
      rw [HBC.out] at q4 q6
      rw [HAC.out] at q5 q6
      rw [HP.out, HP1.out, HQ.out, HP2.out] at q1 q2
      rw [HP.out, HP1.out] at q7
      rw [HQ.out, HP2.out] at q8
      have Q9 := Lib.hid q9
      clear q9
      have n1 : ¬ ac > ab + bc := by omega
      have n2 : ¬ p1 + p2 > ab := by omega
      have n3 : ¬ ab > 7 * (p1 + p2) := by omega
      cases hz : (ab == 0)
      all_goals
        have HZ := Lib.hid (Q9.out.trans hz)
        go_wp2_with fail
        refine (sameC_any a8 a9 X.length Y.length c8 c9 X Y _ R8f.out R9f.out (by omega)).mono ?_
        rw [HZ.out]
        rintro e w14 ⟨rfl, hk14⟩
        have K14 := Lib.hid (K13.out.tr hk14)
        clear hk14
        go_wp2_with fail
        refine (awake_any _).mono ?_
        rintro e w15 ⟨rfl, hk15⟩
        go_wp2_with fail
        go_ret
        exact ⟨rfl, K0.out.tr (K14.out.tr hk15)⟩
    · have heb : (chk b c 24 == 0) = false := by rw [beq_eq_false_iff_ne]; exact h2
      have HH := Lib.hid h1
      have HE := Lib.hid heb
      clear h1 h2 heb
      go_enter Try.func6, Try.ntmps6
      go_wp2_with fail
      go_quiet (fail)
      have K0 := Lib.hid ((Kp.alloc No w (.cells #[.slice A n ca, .slice B m cb, .slice C r cc] 46)).tr (Kp.drewN No _ nq))
      generalize (w.alloc (.cells #[.slice A n ca, .slice B m cb, .slice C r cc] 46)).drewN nq = w0 at *
      go_wp2_with fail
      refine (Check_any A B n m ca cb a b 24 _ (ha.no K0.out) (hb.no K0.out) (by omega)).mono ?_
      rw [HH.out]
      rintro e w1 ⟨rfl, hk1⟩
      have K1 := Lib.hid (K0.out.tr hk1)
      clear hk1
      go_wp2_with fail
      refine (Check_any B C m r cb cc b c 24 _ (hb.no K1.out) (hc.no K1.out) (by omega)).mono ?_
      rintro e w2 ⟨rfl, hk2⟩
      have K2 := Lib.hid (K1.out.tr hk2)
      clear hk2
      have heb := HE.out
      go_wp2_with fail
      refine (awake_any _).mono ?_
      rintro e w15 ⟨rfl, hk15⟩
      go_wp2_with fail
      go_ret
      exact ⟨rfl, K2.out.tr hk15⟩
  · have heb : (chk a b 24 == 0) = false := by rw [beq_eq_false_iff_ne]; exact h1
    clear h1
    have HE := Lib.hid heb
    clear heb
    go_enter Try.func6, Try.ntmps6
    go_wp2_with fail
    go_quiet (fail)
    have K0 := Lib.hid ((Kp.alloc No w (.cells #[.slice A n ca, .slice B m cb, .slice C r cc] 46)).tr (Kp.drewN No _ nq))
    generalize (w.alloc (.cells #[.slice A n ca, .slice B m cb, .slice C r cc] 46)).drewN nq = w0 at *
    go_wp2_with fail
    refine (Check_any A B n m ca cb a b 24 _ (ha.no K0.out) (hb.no K0.out) (by omega)).mono ?_
    rintro e w1 ⟨rfl, hk1⟩
    have K1 := Lib.hid (K0.out.tr hk1)
    clear hk1
    have heb := HE.out
    have hne : ¬ chk a b 24 = 0 := fun h => by rw [h] at heb; cases heb
    generalize chk a b 24 = er at heb hne ⊢
    go_wp2_with fail
    refine (awake_any _).mono ?_
    rintro e w15 ⟨rfl, hk15⟩
    go_wp2_with fail
    go_ret
    exact ⟨rfl, K1.out.tr hk15⟩
end Go.Proofs.Ytfflhlmnfhfcgaa
