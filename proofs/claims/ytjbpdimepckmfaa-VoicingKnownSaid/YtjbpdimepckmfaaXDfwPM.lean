/- Chapter 27: the reference's Differ: the walk. · Chapter 27: the pipes to which different things have been done, as the program gathers them (plain). -/
import Derived.Test.YtjbpdimepckmfaaXRdf
import Derived.Test.YtjbpdimepckmfaaXHisPM
import Derived.Test.YtjbpdimepckmfaaXLibSortM
namespace Go.Proofs.Ytjbpdimepckmfaa
open Go.RowKit Go.Kq

theorem info39 : (Try.prog.info? 39).map (fun i => (i.zero, i.size, i.bytes)) = some (some (.agg #[.int .i64 0, .int .i64 0]), 2, 16) := by kernel_rfl
theorem pp_one (x : Pp) : ∀ v ∈ ppC x, v.oneCell' = true := by
  intro v hv
  simp [ppC] at hv
  rcases hv with rfl | rfl <;> rfl
theorem difF_no {a b : List Wk} (h : bothE a b ≠ 0) : DifF a b [] := by unfold DifF; rw [if_neg h]
theorem difF_yes {a b : List Wk} {out : List Pp} (h : bothE a b = 0) (hd : DifR (cws a) (cws b) out) : DifF a b out := by unfold DifF; rw [if_pos h]; exact hd
theorem stRes_is {l : List Wk} {s : List Pv} (h : chkL l = 0) (hs : StRes l s) : IsSt (cws l) s := by unfold StRes at hs; rwa [if_pos h] at hs
theorem cws_few {l : List Wk} (h : Rec l) : (cws l).length ≤ 400 := by
  unfold cws cntL
  rw [List.length_map]
  have := cntU_len l l.length
  have := h.len
  omega
theorem bne_tf (p q : Bool) : (p != q) = decide (p ≠ q) := by cases p <;> cases q <;> rfl
set_option maxHeartbeats 6000000 in
set_option maxRecDepth 100000 in
theorem rDiffer_any (A : Option Addr) (n ca : Nat) (a : List Wk) (B : Option Addr) (m cb : Nat) (b : List Wk) (w : World) (hx : RdW w A n a) (hy : RdW w B m b) (fa : Fits a) (fb : Fits b) (hca : n ≤ ca) (hcb : m ≤ cb) :
    Calls Try.prog 26 #[.slice A n ca, .slice B m cb] w fun e w' => ∃ v out, e = .returned (.tuple #[v, .int .i64 (bothE a b)]) ∧ DifF a b out ∧ w'.ownsRow w.heap.size 39 2 v out.length (out.flatMap ppC) ∧ Kp No w w' := by
  obtain ⟨i0, hi0, hz0, hz1, hz2⟩ := info_parts info64
  obtain ⟨j0, hj0, hy0, hy1, hy2⟩ := info_parts info39
  have hB := rboth_any A n ca a B m cb b w hx hy fa fb hca hcb
  have HSA := Lib.hid (fun w' (k : Kp No w w') => rState_any A n ca a w' (hx.no k) fa hca)
  have HSB := Lib.hid (fun w' (k : Kp No w w') => rState_any B m cb b w' (hy.no k) fb hcb)
  clear hx hy fa fb
  by_cases he : bothE a b = 0
  rotate_left
  · have HD := Lib.hid (difF_no he)
    have hne : (bothE a b != 0) = true := by rw [bne_iff_ne]; exact he
    generalize bothE a b = e0 at hB hne ⊢
    clear he
    go_enter Try.func26, Try.ntmps26
    go_wp2_with fail
    with_reducible refine hB.mono ?_
    rintro e w1 ⟨rfl, hk1⟩
    go_wp2_with fail
    refine bodyPost_ret (v := .tuple #[.slice none 0 0, .int .i64 e0]) (by simp [results, Try.results26, go_sem]) rfl ⟨.slice none 0 0, [], rfl, HD.out, ⟨rfl, .inl ⟨rfl, rfl⟩⟩, hk1⟩
  obtain ⟨ra, rb⟩ := both_zero he
  have HRA := Lib.hid (rec_of ra)
  have HRB := Lib.hid (rec_of rb)
  have HD := Lib.hid (fun out (h : DifR (cws a) (cws b) out) => difF_yes he h)
  have HIA := Lib.hid (fun s (h : StRes a s) => stRes_is ra h)
  have HIB := Lib.hid (fun s (h : StRes b s) => stRes_is rb h)
  rw [he] at hB ⊢
  rw [ra] at HSA
  rw [rb] at HSB
  clear he ra rb
  go_enter Try.func26, Try.ntmps26
  go_wp2_with fail
  with_reducible refine hB.mono ?_
  rintro e w1 ⟨rfl, hk1⟩
  go_wp2_with fail
  with_reducible refine (HSA.out w1 hk1).mono ?_
  rintro e w2 ⟨v2, x, rfl, hrx, ho2, hk12⟩
  have hk2 := hk1.tr hk12
  have HXS := Lib.hid (HIA.out x hrx)
  obtain ⟨A2, c2, rfl, _, _, _⟩ := own_form ho2
  have HN2 := Lib.hid (own_news ho2).1
  have HR2 := Lib.hid (show RdP w2 A2 x.length x from Rd.of_own pv_len (by omega) ho2)
  clear ho2 hrx hk1 hk12 hB
  go_wp2_with fail
  with_reducible refine (HSB.out w2 hk2).mono ?_
  rintro e w3 ⟨v3, y, rfl, hry, ho3, hk23⟩
  have hk3 := hk2.tr hk23
  have HYS := Lib.hid (HIB.out y hry)
  obtain ⟨A3, c3, rfl, _, _, _⟩ := own_form ho3
  have HR3 := Lib.hid (show RdP w3 A3 y.length y from Rd.of_own pv_len (by omega) ho3)
  have HRX := Lib.hid (HR2.out.no hk23)
  have HK3 := Lib.hid hk3
  have hxl : x.length ≤ 400 := Nat.le_trans (isSt_len HXS.out) (cws_few HRA.out)
  have hyl : y.length ≤ 400 := Nat.le_trans (isSt_len HYS.out) (cws_few HRB.out)
  obtain ⟨xn, hxn⟩ : ∃ xn, xn = x.length := ⟨_, rfl⟩
  obtain ⟨yn, hyn⟩ : ∃ yn, yn = y.length := ⟨_, rfl⟩
  rw [← hxn] at HR2 HRX HN2 hxl ⊢
  rw [← hyn] at HR3 hyl ⊢
  have HXN := Lib.hid hxn
  have HYN := Lib.hid hyn
  have hnews := rd_newsK pv_len (by decide) (HRX.out.no (Kp.alloc No w3 (.cells #[] 64)))
  have hone := pvs_one x
  clear ho3 hry hk2 hk23 HR2 hk3 hxn hyn
  go_wp2_with (at_builtin; refine stop_in ?_)
  refine stop_out ?_
  refine wpL_append_any rfl _ _ 29 rfl w3.heap.size 64 i0 (Pv.val default) 12 104 Try.underlying29 hi0 hz0 hz1 hz2 rfl (by decide) (.slice (some ⟨w3.heap.size, 0, none⟩) 0 0) 0 [] rfl (own_empty (Nat.le_refl _)) A2 xn c2 (x.flatMap Pv.cells) rfl (by rw [flat_len pv_len, HXN.out]) HN2.out hnews hone (by unfold maxLen; omega) (by omega) (by simp) ?_
  intro v4 w4 hown hgrow hat
  have hk34 : Kp No w3 w4 := (Kp.alloc No w3 (.cells #[] 64)).trans (Kp.grown (S := Kq.One w3.heap.size) hgrow fun k hk _ => by simp [Value.ownBlock] at hk; exact hk.symm) fun k hk e => by
    have e : k = w3.heap.size := e
    omega
  have HO4 := Lib.hid (show w4.ownsRow w3.heap.size 64 12 v4 xn (x.flatMap Pv.cells) by simpa using hown)
  clear hnews hone hown hgrow hat
  go_wp2_with fail
  go_loopw [11, 12] (fun vo vi wr => ∃ (i : Nat) (all : List Pv), i ≤ yn ∧ vi = .int .i64 i ∧ wr.ownsRow w3.heap.size 64 12 vo all.length (all.flatMap Pv.cells) ∧ AllR x (y.take i) all ∧ Kp No w3 wr) (fun _ vi _ => yn - (intOf vi).toNat)
  case atStart => exact ⟨0, x, by omega, rfl, by rw [← HXN.out]; exact HO4.out, all_start HXS.out.1, hk34⟩
  case round =>
    obtain ⟨i, all, hi, rfl, how, hall, hkp⟩ := hrel
    have hal8 := all_len hall
    rw [← HXN.out, List.length_take] at hal8
    obtain ⟨an, han⟩ : ∃ an, an = all.length := ⟨_, rfl⟩
    have han8 : an ≤ 800 := by omega
    rw [← han] at how
    have HAN := Lib.hid han
    have HALL := Lib.hid hall
    obtain ⟨al, cl, rfl, _, _, _⟩ := own_form how
    have HOW := Lib.hid how
    clear how hall han hal8 HO4 hk34
    by_cases hlt : i < yn
    · obtain ⟨v, hv⟩ : ∃ v, y[i]? = some v := ⟨_, List.getElem?_eq_getElem (by rw [← HYN.out]; omega)⟩
      obtain ⟨bb, o, rfl, _, d0, d1, d2, d3, d4, d5, d6, d7, d8, d9, d10, d11⟩ := RdP.at_ (HR3.out.no hkp) hv
      have HTK := Lib.hid (show y.take (i + 1) = y.take i ++ [v] by rw [List.take_add_one, hv]; rfl)
      have hpl := rplace_any (.slice al an cl) an w3.heap.size all v.p wr HOW.out hkp.size (by omega)
      have hcast : (i : Int) < (yn : Int) := by omega
      clear hv
      go_wp2_with fail
      change Calls _ _ #[.slice al an cl, ep v.p] _ _
      with_reducible refine hpl.mono ?_
      rintro e w5 ⟨v5, L, e0, R, rfl, ho5, hpr, hk5⟩
      have HP := Lib.hid (all_step HALL.out hpr)
      have HO5 := Lib.hid ho5
      clear ho5 hpr hpl d0 d1 d2 d3 d4 d5 d6 d7 d8 d9 d10 d11
      go_wp2_with fail
      go_roundw
      case rel => exact ⟨i + 1, L ++ e0 :: R, by omega, by go_num, HO5.out, by rw [HTK.out]; exact HP.out, hkp.tr hk5⟩
      case measure => simp [intOf]; omega
    · obtain rfl : i = yn := by omega
      rw [List.take_of_length_le (by rw [← HYN.out]; exact Nat.le_refl _)] at HALL
      have HRES := Lib.hid (HD.out _ (difL_is HXS.out HYS.out HALL.out))
      have HRAL := Lib.hid (show RdP wr al an all from Rd.of_own pv_len (by omega) HOW.out)
      have HRX1 := Lib.hid (HRX.out.no hkp)
      have HRY1 := Lib.hid (HR3.out.no hkp)
      have HKW := Lib.hid (HK3.out.tr hkp)
      obtain ⟨wo, rfl⟩ : ∃ wo : World, wo = wr := ⟨_, rfl⟩
      have hhn : ∀ v : Pv, ∀ p, (stP x v.p) = p → True := fun _ _ _ => trivial
      clear hhn HRX HR3 HOW hkp HD
      go_wp2_with fail
      go_loopw [13, 14] (fun vo vi wr => ∃ i : Nat, i ≤ an ∧ vi = .int .i64 i ∧ wr.ownsRow wo.heap.size 39 2 vo (difL x y (all.take i)).length ((difL x y (all.take i)).flatMap ppC) ∧ Kp No wo wr) (fun _ vi _ => an - (intOf vi).toNat)
      case atStart => exact ⟨0, by omega, rfl, ⟨rfl, .inl ⟨rfl, rfl⟩⟩, Kp.refl _ _⟩
      case round =>
        obtain ⟨k, hk, rfl, how, hkp⟩ := hrel
        have HOW := Lib.hid how
        obtain ⟨ao, co, rfl, _, _, _⟩ := own_form how
        obtain ⟨M, hM⟩ : ∃ M, M = (difL x y (all.take k)).length := ⟨_, rfl⟩
        have hMk : M ≤ k := by
          rw [hM]
          unfold difL
          have h1 := List.length_filter_le (difB x y) ((all.take k).map Pv.p)
          rw [List.length_map, List.length_take] at h1
          omega
        rw [← hM] at HOW ⊢
        have HM := Lib.hid hM
        clear how hM
        by_cases hlt2 : k < an
        · obtain ⟨v, hv⟩ : ∃ v, all[k]? = some v := ⟨_, List.getElem?_eq_getElem (by rw [← HAN.out]; omega)⟩
          obtain ⟨ba, oa, rfl, _, d0, d1, _⟩ := RdP.at_ (HRAL.out.no hkp) hv
          have HV := Lib.hid hv
          have HDS := Lib.hid (difL_succ (x := x) (y := y) hv)
          have HBD := Lib.hid (show difB x y v.p = (((stP x v.p).isSome != (stP y v.p).isSome) || !eqV ((stP x v.p).getD default) ((stP y v.p).getD default)) from rfl)
          have hcast : (k : Int) < (an : Int) := by omega
          have HOF1 := Lib.hid (fun w' (q : Kp No wo w') => rof_any A2 xn c2 x v.p w' (HRX1.out.no q) (by omega))
          have HOF2 := Lib.hid (fun w' (q : Kp No wo w') => rof_any A3 i c3 y v.p w' (HRY1.out.no q) (by omega))
          generalize (stP x v.p).isSome = q1 at HBD HOF1
          generalize (stP y v.p).isSome = q2 at HBD HOF2
          generalize (stP x v.p).getD default = u1 at HBD HOF1
          generalize (stP y v.p).getD default = u2 at HBD HOF2
          clear hv
          go_wp2_with fail
          change Calls _ _ #[_, ep v.p] _ _
          with_reducible refine (HOF1.out wr hkp).mono ?_
          rintro e w5 ⟨rfl, hk5⟩
          have hkp5 := hkp.tr hk5
          have HCE1 := Lib.hid (show (.cells #[.int .i64 u1.p.1, .int .i64 u1.p.2, .int .i64 u1.f0, .int .i64 u1.f1, .int .i64 u1.f2, .int .i64 u1.f3, .int .i64 u1.f4, .int .i64 u1.f5, .int .i64 u1.f6, .int .i64 u1.f7, .int .i64 u1.no, .string u1.la] 64 : Obj) = .cells u1.cells.toArray 64 from rfl)
          have hka : Kp No w5 (w5.alloc (.cells u1.cells.toArray 64)) := Kp.alloc _ _ _
          have hba : BoxP (w5.alloc (.cells u1.cells.toArray 64)) w5.heap.size u1 := heap_alloc_new _ _
          obtain ⟨bv, ov, hbv, hlt5, e0, e1, _⟩ := RdP.at_ (HRAL.out.no hkp5) HV.out
          cases hbv
          simp only [Pv.val]
          clear d0 d1
          go_wp2_with fail
          rw [HCE1.out]
          change Calls _ _ #[_, ep v.p] _ _
          have hkp6 := hkp5.tr hka
          have hr6 := hk5.tr hka
          generalize w5.alloc (.cells u1.cells.toArray 64) = w6 at hkp6 hr6 hba ⊢
          obtain ⟨g1, hg1⟩ : ∃ g1, g1 = w5.heap.size := ⟨_, rfl⟩
          rw [← hg1] at hba ⊢
          clear hka hk5 hkp5 hg1 HCE1 e0 e1 hlt5
          with_reducible refine (HOF2.out w6 hkp6).mono ?_
          rintro e w7 ⟨rfl, hk67⟩
          have hkp7 := hkp6.tr hk67
          have HB7 := Lib.hid (hk67.heap hba id : BoxP w7 g1 u1)
          obtain ⟨s0, s1, s2, s3, s4, s5, s6, s7, s8, s9, s10, s11⟩ := PvAt.of (boxP_all HB7.out)
          simp only [Nat.zero_add] at s1 s2 s3 s4 s5 s6 s7 s8 s9 s10 s11
          have hgl1 := (Array.getElem?_eq_some_iff.1 HB7.out).1
          have HE := fun w' => pv_equal w' u1 u2
          simp only [Pv.val] at HE ⊢
          obtain ⟨bv, ov, hbv, hlt7, e0, e1, _⟩ := RdP.at_ (HRAL.out.no hkp7) HV.out
          cases hbv
          have HOW7 := Lib.hid ((hr6.tr hk67).owns HOW.out fun _ _ h => h)
          have HB2 := Lib.hid (fun (C : Obj) => (show ∀ j u, (ppC v.p)[j]? = some u → ((w7.alloc C).alloc (.cells (ppC v.p).toArray 39)).cell? ((⟨w7.heap.size + 1, 0, none⟩ : Addr).add j) = some u from by
            have h := new_cells (e := 39) (w7.alloc C) (ppC v.p) (by rw [pp_len]; unfold maxLen; omega)
            rw [World.size_alloc] at h
            exact h))
          have HSZ := Lib.hid (show wo.heap.size ≤ w7.heap.size from hkp7.size)
          clear hr6 hk67
          generalize eqV u1 u2 = qe at HE HBD
          cases q1 <;> cases q2 <;> cases qe
          all_goals first
            | (have HS : Hid (difL x y (all.take (k + 1)) = difL x y (all.take k)) := Lib.hid (by rw [HDS.out, HBD.out]; simp; done)
               go_wp2_with fail
               go_roundw
               case rel => exact ⟨k + 1, by omega, by go_num, by rw [HS.out, ← HM.out]; exact HOW7.out.alloc _, hkp7.tr (Kp.alloc _ _ _)⟩
               case measure => simp [intOf]; omega)
            | (have HS : Hid (difL x y (all.take (k + 1)) = difL x y (all.take k) ++ [v.p]) := Lib.hid (by rw [HDS.out, HBD.out]; simp; done)
               go_wp2_with (at_builtin; refine stop_in ?_)
               refine stop_out ?_
               refine wpL_append_any rfl _ _ 47 rfl wo.heap.size 39 j0 (.agg #[.int .i64 0, .int .i64 0]) 2 16 Try.underlying47 hj0 hy0 hy1 hy2 rfl (by decide) (.slice ao M co) M _ rfl ((HOW7.out.alloc _).alloc (.cells (ppC v.p).toArray 39)) (some ⟨w7.heap.size + 1, 0, none⟩) 1 1 (ppC v.p) rfl rfl (fun h => (by cases h)) (fun ad had => by cases had; exact HB2.out _) (pp_one v.p) (by unfold maxLen; omega) (by omega) (by have := HSZ.out; simp; omega) ?_
               intro v' w9 hown' hgrow hat'
               have hk9 : Kp No wo w9 := kp_app (hkp7.tr (Kp.alloc _ _ _)) (HOW7.out.alloc _) (Nat.le_refl _) hgrow
               obtain ⟨a9, c9, rfl, _, _, _⟩ := own_form hown'
               have HO9 := Lib.hid hown'
               clear hown' hgrow hat'
               go_wp2_with fail
               go_roundw
               case rel => exact ⟨k + 1, by omega, by go_num, by rw [HS.out, List.length_append, ← HM.out, List.flatMap_append]; simpa using HO9.out, hk9⟩
               case measure => simp [intOf]; omega)
        · obtain rfl : k = an := by omega
          rw [List.take_of_length_le (by rw [← HAN.out]; exact Nat.le_refl _)] at HOW HM
          go_wp2_with fail
          refine bodyPost_ret (v := .tuple #[.slice ao M co, .int .i64 0]) (by simp [results, Try.results26, go_sem]) rfl ⟨_, _, rfl, HRES.out, by rw [← HM.out]; exact own_mono HOW.out HKW.out.size, HKW.out.tr hkp⟩
end Go.Proofs.Ytjbpdimepckmfaa

namespace Go.Proofs.Ytjbpdimepckmfaa
open Go.RowKit Go.Kq Go.Sort

def difO (o1 o2 : Option Pv) : Bool := (o1.isSome != o2.isSome) || !eqV (o1.getD default) (o2.getD default)
theorem difO_iff {o1 o2 : Option Pv} : difO o1 o2 = true ↔ o1 ≠ o2 := by
  unfold difO
  cases o1 with
  | none =>
    cases o2 with
    | none =>
      have : eqV (default : Pv) default = true := (eqV_iff _ _).2 rfl
      simp [this]
    | some v => simp
  | some u =>
    cases o2 with
    | none => simp
    | some v =>
      simp only [Option.isSome_some, bne_self_eq_false, Bool.false_or, Option.getD_some, Bool.not_eq_true', ne_eq, Option.some.injEq]
      rw [← eqV_iff, Bool.not_eq_true]
def dlA (wa wb : List Wk) (S : List Pp) : List Pp := S.reverse.filter fun p => difO (stOf wa p) (stOf wb p)
def dlB (wa : List Wk) (S : List Pp) : List Pp := S.reverse.filter fun p => (stOf wa p).isNone
theorem dlA_cons (wa wb : List Wk) (p : Pp) (S : List Pp) : dlA wa wb (p :: S) = dlA wa wb S ++ if difO (stOf wa p) (stOf wb p) then [p] else [] := by
  unfold dlA
  rw [List.reverse_cons, List.filter_append]
  by_cases h : difO (stOf wa p) (stOf wb p) <;> simp [h]
theorem dlB_cons (wa : List Wk) (p : Pp) (S : List Pp) : dlB wa (p :: S) = dlB wa S ++ if (stOf wa p).isNone then [p] else [] := by
  unfold dlB
  rw [List.reverse_cons, List.filter_append]
  by_cases h : (stOf wa p).isNone <;> simp [h]
theorem dlA_len (wa wb : List Wk) (S : List Pp) : (dlA wa wb S).length ≤ S.length := by
  unfold dlA
  have := List.length_filter_le (fun p => difO (stOf wa p) (stOf wb p)) S.reverse
  rwa [List.length_reverse] at this
theorem dlB_len (wa : List Wk) (S : List Pp) : (dlB wa S).length ≤ S.length := by
  unfold dlB
  have := List.length_filter_le (fun p => (stOf wa p).isNone) S.reverse
  rwa [List.length_reverse] at this
/-- All pipes gathered and sorted. -/
theorem dif_sorted {wa wb : List Wk} {S T out : List Pp} (hS : S.Nodup) (hT : T.Nodup) (mS : ∀ p, p ∈ S ↔ (stOf wa p).isSome = true) (mT : ∀ p, p ∈ T ↔ (stOf wb p).isSome = true)
    (hp : out.Perm (dlA wa wb S ++ dlB wa T)) (hs : out.Pairwise fun x y => ltP y x = false) : DifR wa wb out := by
  have hmem : ∀ p, p ∈ dlA wa wb S ++ dlB wa T ↔ stOf wa p ≠ stOf wb p := fun p => by
    unfold dlA dlB
    rw [List.mem_append, List.mem_filter, List.mem_filter, List.mem_reverse, List.mem_reverse, mS, mT, difO_iff]
    cases h1 : stOf wa p <;> cases h2 : stOf wb p <;> simp
  have hnd : (dlA wa wb S ++ dlB wa T).Nodup := by
    rw [List.nodup_append]
    refine ⟨?_, ?_, fun u hu v hv e => ?_⟩
    · unfold dlA
      exact List.Nodup.sublist List.filter_sublist ((List.reverse_perm S).nodup_iff.2 hS)
    · unfold dlB
      exact List.Nodup.sublist List.filter_sublist ((List.reverse_perm T).nodup_iff.2 hT)
    · subst e
      unfold dlA at hu
      unfold dlB at hv
      have h1 := (mS u).1 (by simpa using (List.mem_filter.1 hu).1)
      have h2 := (List.mem_filter.1 hv).2
      rw [Option.isNone_iff_eq_none] at h2
      rw [h2] at h1
      cases h1
  refine ⟨?_, fun p => hp.mem_iff.trans (hmem p)⟩
  have h1 : out.Pairwise fun x y => ltP y x = false ∧ x ≠ y := hs.and (hp.nodup_iff.2 hnd)
  exact h1.imp fun {x y} h => by
    cases h5 : ltP x y with
    | true => rfl
    | false => exact absurd (ltP_total h5 h.1) h.2
theorem ltPP (x y : Pp) : ltOf cmpP x y = ltP x y := cmpP_lt x y
theorem swoP : SWO (ltOf cmpP) where
  irrefl x := by rw [ltPP]; exact ltP_irr x
  trans x y z h1 h2 := by
    rw [ltPP] at *
    exact ltP_trans h1 h2
  ntrans x y z h1 h2 := by
    rw [ltPP, ltP_no] at *
    omega
theorem cmpLaysP (blk off size : Nat) (w : World) : CmpLays Try.prog 54 #[] ppC 2 cmpP blk off size w := fun _ _ _ _ x y => order_any x y _
theorem RangeAt.kpS {κ ν : Type} [DecidableEq κ] {ek : κ → Value} {ev : ν → Value} {E : List (κ × ν)} {S : List κ} {w w' : World} {b r : Nat} {T : Nat → Prop} (h : RangeAt w b r ek ev E S) (k : Kp T w w') (hb : ¬ T b) (hr : ¬ T r) : RangeAt w' b r ek ev E S :=
  h.of_block (k.block b h.map.lt hb) (k.block r h.lt hr)
end Go.Proofs.Ytjbpdimepckmfaa
