/- Chapter 24: the document's Widest and Gap. -/
import Derived.Test.YtakgcnjpmpcekaaXRfA
import Derived.Test.YtakgcnjpmpcekaaXRfB
import Derived.Test.YtakgcnjpmpcekaaXSpsM
import Derived.Test.YtakgcnjpmpcekaaXFiA
namespace Go.Proofs.Ytakgcnjpmpcekaa
open Go.RowKit Go.Kq

def wid3 (o : Option (Int × Int)) : Value := match o with
  | some p => .tuple #[.int .i64 p.1, .int .i64 p.2, .bool true]
  | none => .tuple #[.int .i64 0, .int .i64 0, .bool false]
theorem rd_snoc {r : List Int} {S : List Int} {k : Nat} {p : Int} {x : Int} (h : S[k]? = some p) (hx : r.getD p.toNat 0 = x) : rdS r (S.take (k + 1)) = rdS r (S.take k) ++ [x] := by
  unfold rdS
  rw [List.take_add_one, h, List.map_append]
  simp [← hx]
theorem rd_mem {r : List Int} (hr : ∀ x ∈ r, 1 ≤ x ∧ x ≤ 1000000) (S : List Int) : ∀ x ∈ rdS r S, 0 ≤ x ∧ x ≤ 1000000 := fun x hx => by
  obtain ⟨p, _, rfl⟩ := List.mem_map.1 hx
  rcases Nat.lt_or_ge p.toNat r.length with h | h
  · have := hr _ (getD_mem h)
    omega
  · rw [List.getD_eq_getElem?_getD, List.getElem?_eq_none h]
    simp
set_option maxHeartbeats 8000000 in
set_option maxRecDepth 100000 in
theorem rWidest_any (g : Nat) (A R B : Option Addr) (n ca m cr cb : Nat) (l : List Fc) (r : List Int) (plan : List (List Int)) (w : World) (hA : RdF w A n l) (hR : RdI .i64 w R m r) (hB : RdL g w B n plan) (hl : ∀ f ∈ l, badF f = false) (hn : n ≤ 12) (_hm : m ≤ 60) (hr : ∀ x ∈ r, 1 ≤ x ∧ x ≤ 1000000) (hp : ∀ S ∈ plan, S.length ≤ 60 ∧ ∀ p ∈ S, 0 ≤ p ∧ p < (m : Int)) :
    Calls Try.prog 24 #[.slice A n ca, .slice R m cr, .slice B n cb] w fun e w' => e = .returned (wid3 (widZ l r plan)) ∧ Kp No w w' := by
  have HA := Lib.hid hA
  have HR := Lib.hid hR
  have HB := Lib.hid hB
  have HAL := Lib.hid hA.1
  have HRL := Lib.hid hR.1
  have HBL := Lib.hid hB.1
  have HGD := Lib.hid hl
  have HP := Lib.hid hp
  have HRM := Lib.hid (fun S => rd_mem hr S)
  have HZ := Lib.hid (show widZ l r plan = widK l r plan n by unfold widZ; rw [hA.1])
  clear hA hR hB hl hp hr
  go_enter Try.func24, Try.ntmps24
  go_wp2_with fail
  go_loopw [9, 10, 11] (fun a b i wr => ∃ (j : Nat) (M lo : Int), j ≤ n ∧ i = .int .i64 (j : Nat) ∧ a = .int .i64 M ∧ b = .int .i64 lo ∧ widK l r plan j = some (M, lo) ∧ Kp No w wr) (fun _ _ i _ => n - (intOf i).toNat)
  case atStart => exact ⟨0, 0, 10000000, by omega, rfl, rfl, rfl, rfl, Kp.refl _ _⟩
  case round =>
    obtain ⟨wo, rfl⟩ : ∃ wo, wo = wr := ⟨_, rfl⟩
    obtain ⟨j, M, lo, hj, rfl, rfl, rfl, hno, hkp⟩ := hrel
    have HN := Lib.hid hno
    have HK := Lib.hid hkp
    clear hno hkp
    by_cases hlt : j < n
    · obtain ⟨f, hf⟩ : ∃ f, l[j]? = some f := ⟨_, List.getElem?_eq_getElem (by rw [HAL.out]; exact hlt)⟩
      obtain ⟨S, hS⟩ : ∃ S, plan[j]? = some S := ⟨_, List.getElem?_eq_getElem (by rw [HBL.out]; exact hlt)⟩
      obtain ⟨q, hq⟩ : ∃ q, S.length = q := ⟨_, rfl⟩
      have hSP := HP.out S (List.mem_of_getElem? hS)
      rw [hq] at hSP
      have hq60 := hSP.1
      have HSP := Lib.hid hSP.2
      have HSQ := Lib.hid hq
      have HGF := Lib.hid (show gfZ l r plan j = gapN f.w (rdS r S) by
        unfold gfZ
        rw [getD_at hf, List.getD_eq_getElem?_getD, hS]
        rfl)
      have kf := kind_of (HGD.out f (List.mem_of_getElem? hf))
      have HS := Lib.hid hS
      have HF := Lib.hid hf
      clear hS hf hSP hq
      obtain ⟨b2, o2, A2, n2, c2, rfl, hb2, hc2, hnil2, r2, _⟩ := (HB.out.no HK.out).2 j S HS.out
      have hn2 : n2 = q := r2.1.symm.trans HSQ.out
      subst hn2
      have HC2 := Lib.hid hc2
      have HR2 := Lib.hid r2
      clear hc2 hb2 hnil2 r2
      go_wp2_with fail
      go_loopw [12, 13] (fun v i wr2 => ∃ (k : Nat) (A3 : Option Addr) (c3 : Nat), k ≤ n2 ∧ i = .int .i64 (k : Nat) ∧ v = .slice A3 k c3 ∧ OwL wr2 wo.heap.size (.slice A3 k c3) (rdS r (S.take k)) ∧ Kp No wo wr2) (fun _ i _ => n2 - (intOf i).toNat)
      case atStart => exact ⟨0, none, 0, by omega, rfl, rfl, World.ownsRow_nil _ _ _ _, Kp.refl _ _⟩
      case round =>
        obtain ⟨k, A3, c3, hk, rfl, rfl, hown, hkp⟩ := hrel
        have HO := Lib.hid hown
        have HK3 := Lib.hid hkp
        have hc2 := hkp.cell HC2.out id
        have hbb2 := World.block_lt_of_cell? _ _ hc2
        clear hown hkp
        by_cases hlt2 : k < n2
        · obtain ⟨p, hp⟩ : ∃ p, S[k]? = some p := ⟨_, List.getElem?_eq_getElem (by rw [HSQ.out]; exact hlt2)⟩
          have hpb := HSP.out p (List.mem_of_getElem? hp)
          obtain ⟨b4, o4, rfl, hb4, hc4⟩ := (HR2.out.no HK3.out).2 k p hp
          obtain ⟨pn, rfl⟩ : ∃ pn : Nat, p = pn := ⟨p.toNat, by omega⟩
          obtain ⟨x, hx⟩ : ∃ x, r[pn]? = some x := ⟨_, List.getElem?_eq_getElem (by rw [HRL.out]; omega)⟩
          obtain ⟨b5, o5, rfl, hb5, hc5⟩ := ((HR.out.no HK.out).no HK3.out).2 pn x hx
          have HSN := Lib.hid (rd_snoc (r := r) hp (x := x) (by rw [List.getD_eq_getElem?_getD, Int.toNat_natCast, hx]; rfl))
          have HLK := Lib.hid (show (rdS r (S.take k)).length = k by rw [rd_len, List.length_take, HSQ.out]; omega)
          clear hx hp
          go_wp2_with (at_builtin; refine stop_in ?_)
          refine stop_out ?_
          refine push_long rfl _ _ rfl wo.heap.size A3 k c3 (rdS r (S.take k)) x rfl rfl rfl HLK.out HO.out (by omega) HK3.out (Nat.le_refl _) HK3.out.size ?_
          intro g6 c6 w6 hown' hk6 _
          have HO6 := Lib.hid hown'
          have HK6 := Lib.hid hk6
          clear hown' hk6 hc2 hc4 hc5 hb4 hb5 hbb2
          go_wp2_with fail
          go_roundw
          case rel => exact ⟨k + 1, _, c6, by omega, by go_num, rfl, by rw [HSN.out]; exact HO6.out, HK6.out⟩
          case measure => simp [intOf]; omega
        · obtain rfl : n2 = k := by omega
          have hST : S.take n2 = S := List.take_of_length_le (by rw [HSQ.out]; exact Nat.le_refl _)
          rw [hST] at HO
          obtain ⟨b0, o0, rfl, hbb, c0, c1⟩ := rdf_at ((HA.out.no HK.out).no HK3.out) HF.out
          have GA := Lib.hid (rgap_any f.w A3 n2 c3 (rdS r S) wr (RdI.of_own (xs := rdS r S) (by have h := HO.out; unfold OwL at h; rw [rd_len, HSQ.out] at h; exact h)) (by omega) (by omega) (HRM.out S))
          have HZN := Lib.hid (fun h : widK l r plan (j + 1) = none => widK_none l r plan h n (by omega))
          have HW1 := Lib.hid (show widK l r plan (j + 1) = widS (some (M, lo)) (gapN f.w (rdS r S)) by rw [widK_succ, HN.out, HGF.out])
          generalize gapN f.w (rdS r S) = G at *
          obtain ⟨fw, fk⟩ := f
          dsimp only at *
          clear hST c1
          by_cases hneg : G < 0
          · have HE := Lib.hid (show widZ l r plan = none by rw [HZ.out]; exact HZN.out (by rw [HW1.out]; unfold widS; simp [hneg]))
            have hKK := Lib.hid (HK.out.tr HK3.out)
            go_wp2_with fail
            refine (GA.out).mono ?_
            rintro e w7 ⟨rfl, hw7⟩
            subst hw7
            go_wp2_with fail
            refine bodyPost_ret (v := .tuple #[.int .i64 0, .int .i64 0, .bool false]) (by simp [results, Try.results24, go_sem]) rfl ⟨?_, hKK.out⟩
            rw [HE.out]
            rfl
          · have HE := Lib.hid (show widK l r plan (j + 1) = some (max M G, min lo G) by rw [HW1.out]; exact if_neg hneg)
            obtain ⟨M2, hm0⟩ : ∃ M2, max M G = M2 := ⟨_, rfl⟩
            obtain ⟨L2, hl0⟩ : ∃ L2, min lo G = L2 := ⟨_, rfl⟩
            have hm1 : (if M < G then G else M) = M2 := by rw [← hm0]; split <;> omega
            have hm2 : (if M ≤ G then G else M) = M2 := by rw [← hm0]; split <;> omega
            have hl1 : (if lo < G then lo else G) = L2 := by rw [← hl0]; split <;> omega
            have hl2 : (if G < lo then G else lo) = L2 := by rw [← hl0]; split <;> omega
            rw [hm0, hl0] at HE
            have hKK := Lib.hid (HK.out.tr HK3.out)
            go_wp2_with fail
            refine (GA.out).mono ?_
            rintro e w7 ⟨rfl, hw7⟩
            subst hw7
            go_wp2_with fail
            go_roundw
            case rel => exact ⟨j + 1, M2, L2, by omega, by go_num, rfl, rfl, HE.out, hKK.out⟩
            case measure => simp [intOf]; omega
    · obtain rfl : n = j := by omega
      go_wp2_with fail
      refine bodyPost_ret (v := .tuple #[.int .i64 M, .int .i64 lo, .bool true]) (by simp [results, Try.results24, go_sem]) rfl ⟨?_, HK.out⟩
      rw [HZ.out, HN.out]
      rfl
/-- The document's Gap. -/
theorem wid_some {p : Int × Int} {l : List Fc} {r : List Int} {plan : List (List Int)} (h : widZ l r plan = some p) (he : chkF l = 0) (hp : pipE r = 0) (hq : plaE l.length plan r.length = 0) : gapE l r plan = 0 ∧ gapG l r plan = p.1 := by
  have e : gapE l r plan = 0 := by unfold gapE; rw [if_neg (fun x => x he), if_neg (fun x => x hp), if_neg (fun x => x hq), h]; rfl
  refine ⟨e, ?_⟩
  unfold gapG
  rw [if_pos e, h]
  rfl
set_option maxHeartbeats 8000000 in
set_option maxRecDepth 100000 in
theorem rGap_any (g : Nat) (A R B : Option Addr) (n ca m cr N cb : Nat) (l : List Fc) (r : List Int) (plan : List (List Int)) (w : World) (hA : RdF w A n l) (hR : RdI .i64 w R m r) (hB : RdL g w B N plan) (hm : m ≤ 100000) (hN : N ≤ 20) (hb : ∀ S ∈ plan, S.length ≤ 70) :
    Calls Try.prog 20 #[.slice A n ca, .slice R m cr, .slice B N cb] w fun e w' => e = .returned (.tuple #[.int .i64 (gapG l r plan), .int .i64 (gapE l r plan)]) ∧ Kp No w w' := by
  have CK := Lib.hid (rCheck_any A n ca l w hA)
  have CP := Lib.hid (fun w0 (k : Kp No w w0) => pipes_any R m cr r w0 (hR.no k) hm)
  have PL := fun w0 (k : Kp No w w0) => rplanned_any g B A N cb n ca (m : Nat) plan w0 (hB.no k) hN hb
  have HG0 := Lib.hid (show gapE l r plan ≠ 0 → gapG l r plan = 0 from fun h => by unfold gapG; rw [if_neg h])
  have HGE := Lib.hid (show gapE l r plan = if chkF l ≠ 0 then chkF l else if pipE r ≠ 0 then pipE r else if plaE n plan m ≠ 0 then plaE n plan m else if (widZ l r plan).isSome then 0 else 4 by rw [← hA.1, ← hR.1]; rfl)
  have HAL := Lib.hid hA.1
  have HRL := Lib.hid hR.1
  have HBL := Lib.hid hB.1
  by_cases hc : chkF l = 0
  rotate_left
  · have HE := Lib.hid (show gapE l r plan = chkF l by rw [HGE.out, if_pos hc])
    have HG := Lib.hid (HG0.out (by rw [HE.out]; exact hc))
    have d1 : (chkF l == 0) = false := by simp [hc]
    have d2 : (chkF l != 0) = true := by simp [hc]
    rw [HG.out, HE.out]
    generalize chkF l = E at *
    clear hA hR hB hb
    go_enter Try.func20, Try.ntmps20
    go_wp2_with fail
    refine CK.out.mono ?_
    rintro e w1 ⟨rfl, k1⟩
    go_wp2_with fail
    go_ret2
    exact ⟨rfl, k1⟩
  have HOK := Lib.hid (chk_ok hc)
  by_cases hp : pipE r = 0
  rotate_left
  · have HE := Lib.hid (show gapE l r plan = pipE r by rw [HGE.out, if_neg (fun h => h hc), if_pos hp])
    have HG := Lib.hid (HG0.out (by rw [HE.out]; exact hp))
    have d1 : (pipE r == 0) = false := by simp [hp]
    have d2 : (pipE r != 0) = true := by simp [hp]
    rw [HG.out, HE.out]
    rw [hc] at CK
    generalize pipE r = E at *
    clear hA hR hB hb
    go_enter Try.func20, Try.ntmps20
    go_wp2_with fail
    refine CK.out.mono ?_
    rintro e w1 ⟨rfl, k1⟩
    go_wp2_with fail
    refine (CP.out _ k1).mono ?_
    rintro e w2 ⟨rfl, q2, hw2⟩
    have k2 : Kp No w w2 := by rw [hw2]; exact k1.tr (Kp.drewN No _ _)
    clear hw2
    go_wp2_with fail
    go_ret2
    exact ⟨rfl, k2⟩
  rw [hc] at CK
  rw [hp] at CP
  by_cases hq : plaE n plan m = 0
  rotate_left
  · have HE := Lib.hid (show gapE l r plan = plaE n plan m by rw [HGE.out, if_neg (fun h => h hc), if_neg (fun h => h hp), if_pos hq])
    have HG := Lib.hid (HG0.out (by rw [HE.out]; exact hq))
    have d2 : (plaE n plan m != 0) = true := by simp [hq]
    rw [HG.out, HE.out]
    generalize plaE n plan m = E at *
    have PL := Lib.hid PL
    clear hA hR hB hb hc hp
    go_enter Try.func20, Try.ntmps20
    go_wp2_with fail
    refine CK.out.mono ?_
    rintro e w1 ⟨rfl, k1⟩
    go_wp2_with fail
    refine (CP.out _ k1).mono ?_
    rintro e w2 ⟨rfl, q2, hw2⟩
    have k2 : Kp No w w2 := by rw [hw2]; exact k1.tr (Kp.drewN No _ _)
    clear hw2
    go_wp2_with fail
    refine (PL.out _ k2).mono ?_
    rintro e w3 ⟨rfl, hw3⟩
    subst hw3
    go_wp2_with fail
    go_ret2
    exact ⟨rfl, k2⟩
  have HE := Lib.hid (show gapE l r plan = if (widZ l r plan).isSome then 0 else 4 by rw [HGE.out, if_neg (fun h => h hc), if_neg (fun h => h hp), if_neg (fun h => h hq)])
  have HPO := Lib.hid (pip_ok hp)
  have HLO := Lib.hid (pla_ok hq)
  have HSM := Lib.hid (fun p (h : widZ l r plan = some p) => wid_some h hc hp (by rw [HAL.out, HRL.out]; exact hq))
  have hn12 : n ≤ 12 := by rw [← HAL.out]; exact HOK.out.1
  have hm60 : m ≤ 60 := by rw [← HRL.out]; exact HPO.out.1
  have hNn : N = n := by rw [← HBL.out]; exact HLO.out.1
  subst hNn
  rw [hq] at PL
  have WD := fun w0 (k : Kp No w w0) => rWidest_any g A R B N ca m cr cb l r plan w0 (hA.no k) (hR.no k) (hB.no k) HOK.out.2.1 hn12 hm60 HPO.out.2 HLO.out.2.2
  have PL := Lib.hid PL
  clear hA hR hB hb hc hp hq
  cases hz : widZ l r plan with
  | none =>
    rw [hz] at WD HE
    have WD := Lib.hid WD
    have HE1 := Lib.hid (show gapE l r plan = 4 from HE.out)
    have HG := Lib.hid (HG0.out (by rw [HE1.out]; decide))
    rw [HG.out, HE1.out]
    clear hz
    unfold wid3 at WD
    dsimp only at WD
    go_enter Try.func20, Try.ntmps20
    go_wp2_with fail
    refine CK.out.mono ?_
    rintro e w1 ⟨rfl, k1⟩
    go_wp2_with fail
    refine (CP.out _ k1).mono ?_
    rintro e w2 ⟨rfl, q2, hw2⟩
    have k2 : Kp No w w2 := by rw [hw2]; exact k1.tr (Kp.drewN No _ _)
    clear hw2
    go_wp2_with fail
    refine (PL.out _ k2).mono ?_
    rintro e w3 ⟨rfl, hw3⟩
    subst hw3
    go_wp2_with fail
    refine (WD.out _ k2).mono ?_
    rintro e w4 ⟨rfl, k4⟩
    go_wp2_with fail
    go_ret2
    exact ⟨rfl, k2.tr k4⟩
  | some p =>
    obtain ⟨M, lo⟩ := p
    obtain ⟨e1, e2⟩ := HSM.out _ hz
    rw [hz] at WD
    have WD := Lib.hid WD
    rw [e1, e2]
    clear hz e1 e2
    unfold wid3 at WD
    dsimp only at WD
    go_enter Try.func20, Try.ntmps20
    go_wp2_with fail
    refine CK.out.mono ?_
    rintro e w1 ⟨rfl, k1⟩
    go_wp2_with fail
    refine (CP.out _ k1).mono ?_
    rintro e w2 ⟨rfl, q2, hw2⟩
    have k2 : Kp No w w2 := by rw [hw2]; exact k1.tr (Kp.drewN No _ _)
    clear hw2
    go_wp2_with fail
    refine (PL.out _ k2).mono ?_
    rintro e w3 ⟨rfl, hw3⟩
    subst hw3
    go_wp2_with fail
    refine (WD.out _ k2).mono ?_
    rintro e w4 ⟨rfl, k4⟩
    go_wp2_with fail
    go_ret2
    exact ⟨rfl, k2.tr k4⟩
end Go.Proofs.Ytakgcnjpmpcekaa
