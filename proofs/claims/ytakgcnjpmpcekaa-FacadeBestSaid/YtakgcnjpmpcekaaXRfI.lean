/- Chapter 24: the document's Plan. -/
import Derived.Test.YtakgcnjpmpcekaaXRfG
import Derived.Test.YtakgcnjpmpcekaaXRfH
import Derived.Test.YtakgcnjpmpcekaaXAwA
namespace Go.Proofs.Ytakgcnjpmpcekaa
open Go.RowKit Go.Kq

theorem rd_cI (r : List Int) (p : List Nat) : rdS r (cI p) = p.map fun x => r.getD x 0 := by
  unfold rdS cI
  rw [List.map_map]
  rfl
theorem intP_getD (P : List (List Nat)) (i : Nat) : (intP P).getD i [] = cI (P.getD i []) := by
  unfold intP
  rw [List.getD_eq_getElem?_getD, List.getElem?_map, List.getD_eq_getElem?_getD]
  cases P[i]? <;> rfl
theorem gf_int (l : List Fc) (r : List Int) (P : List (List Nat)) (i : Nat) : gfZ l r (intP P) i = gfN l r P i := by
  unfold gfZ gfN
  rw [intP_getD, rd_cI]
theorem wid_int (l : List Fc) (r : List Int) (P : List (List Nat)) : widZ l r (intP P) = widN l r P := by
  unfold widZ widK widN
  simp only [gf_int]
theorem plan_in {l : List Fc} {ns : List Nat} {m : Nat} (h : dvN l.length m ((l.length + 1) / 2) 0 ns = true) (hm : m ≤ 60) : ∀ S ∈ intP (planN l ns), S.length ≤ 60 ∧ ∀ p ∈ S, 0 ≤ p ∧ p < (m : Int) := fun S hS => by
  obtain ⟨T, hT, rfl⟩ := List.mem_map.1 hS
  have hp := plan_perm l ns m h
  refine ⟨?_, fun p hp2 => ?_⟩
  · have h1 := hp.length_eq
    rw [List.length_range] at h1
    have h2 : T.length ≤ (planN l ns).flatten.length := by
      obtain ⟨k, hk, e⟩ := List.getElem_of_mem hT
      have h3 := take_flat (planN l ns) k T (by rw [List.getElem?_eq_getElem hk, e])
      have h4 := take_flat_le (planN l ns) (k + 1)
      rw [h3, List.length_append] at h4
      omega
    rw [List.length_map]
    omega
  · obtain ⟨x, hx, rfl⟩ := List.mem_map.1 hp2
    have := List.mem_range.1 (hp.mem_iff.1 (List.mem_flatten.2 ⟨T, hT, hx⟩))
    omega
theorem fold_succ {α β : Type} (f : β → α → β) (z : β) (L : List α) (i : Nat) (a : α) (h : L[i]? = some a) : (L.take (i + 1)).foldl f z = f ((L.take i).foldl f z) a := by
  rw [List.take_add_one, h, List.foldl_append]
  rfl
def BstP (l : List Fc) (n base : Nat) (w : World) (q : Option (List Nat × Int)) (vb vg vf : Value) : Prop := match q with
  | none => vb = .slice none 0 0 ∧ vg = .int .i64 0 ∧ vf = .bool false
  | some p => ∃ g, vb = .slice (some ⟨g, 0, none⟩) n n ∧ vg = .int .i64 p.2 ∧ vf = .bool true ∧ RwM base w g n (intP (planN l p.1))
theorem BstP.no {l : List Fc} {n base : Nat} {w w' : World} {q : Option (List Nat × Int)} {vb vg vf : Value} (h : BstP l n base w q vb vg vf) (k : Kp No w w') : BstP l n base w' q vb vg vf := by
  cases q with
  | none => exact h
  | some p =>
    obtain ⟨g, h1, h2, h3, h4⟩ := h
    exact ⟨g, h1, h2, h3, h4.no k⟩
theorem cI_toNat (S : List Nat) : (cI S).map Int.toNat = S := by
  unfold cI
  rw [List.map_map]
  have : (Int.toNat ∘ fun i : Nat => (i : Int)) = id := funext fun i => by simp
  rw [this, List.map_id]
theorem refV_false {l : List Fc} {r : List Int} {least : Int} {S : List Nat} (h : dvN l.length r.length ((l.length + 1) / 2) 0 S = false) : refV l r least S = none := by
  unfold refV
  rw [h]
  rfl
theorem refV_none {l : List Fc} {r : List Int} {least : Int} {S : List Nat} (hw : widN l r (planN l S) = none) : refV l r least S = none := by
  unfold refV
  rw [hw]
  split <;> rfl
theorem refV_some {l : List Fc} {r : List Int} {least : Int} {S : List Nat} {p : Int × Int} (h : dvN l.length r.length ((l.length + 1) / 2) 0 S = true) (hw : widN l r (planN l S) = some p) : refV l r least S = if least ≤ p.2 then some p.1 else none := by
  unfold refV
  rw [h, hw]
  rfl
set_option maxHeartbeats 8000000 in
set_option maxRecDepth 100000 in
theorem rPlan_any (A R : Option Addr) (n ca m cr : Nat) (l : List Fc) (r : List Int) (least : Int) (w : World) (hA : RdF w A n l) (hR : RdI .i64 w R m r) (hm : m ≤ 100000) (hn7 : chkF l = 0 → n ≤ 7) (hm16 : pipE r = 0 → m ≤ 16) :
    Calls Try.prog 14 #[.slice A n ca, .slice R m cr, .int .i64 least] w (PlnR l r least w) := by
  have CK := Lib.hid (rCheck_any A n ca l w hA)
  have CP := Lib.hid (fun w0 (k : Kp No w w0) => pipes_any R m cr r w0 (hR.no k) hm)
  have OUT := Lib.hid (fun w0 => from_any least 0 10000000 w0)
  have HAL := Lib.hid hA.1
  have HRL := Lib.hid hR.1
  have HPE := Lib.hid (show plnE l r least = if chkF l ≠ 0 then chkF l else if pipE r ≠ 0 then pipE r else if oB least 0 10000000 then 2 else if (bstN l r least ((l.length + 1) / 2) 0).2 then 0 else 4 from rfl)
  have HERR := Lib.hid (show ∀ w', Kp No w w' → ∀ E, plnE l r least = E → E ≠ 0 → PlnR l r least w (.returned (.tuple #[.slice none 0 0, .int .i64 E])) w' from fun w' k E h h0 => ⟨k, .inl ⟨by rw [h]; exact h0, by rw [h]⟩⟩)
  by_cases hc : chkF l = 0
  rotate_left
  · have HE := Lib.hid (HERR.out · · (chkF l) (by rw [HPE.out, if_pos hc]) hc)
    have d1 : (chkF l == 0) = false := by simp [hc]
    have d2 : (chkF l != 0) = true := by simp [hc]
    generalize chkF l = E at *
    clear hA hR hn7 hm16
    go_enter Try.func14, Try.ntmps14
    go_wp2_with fail
    refine CK.out.mono ?_
    rintro e w1 ⟨rfl, k1⟩
    go_wp2_with fail
    exact bodyPost_ret (v := .tuple #[.slice none 0 0, .int .i64 E]) (by simp [results, Try.results14, go_sem]) rfl (HE.out _ k1)
  have hn := hn7 hc
  have HOK := Lib.hid (chk_ok hc)
  by_cases hp : pipE r = 0
  rotate_left
  · have HE := Lib.hid (HERR.out · · (pipE r) (by rw [HPE.out, if_neg (fun h => h hc), if_pos hp]) hp)
    have d1 : (pipE r == 0) = false := by simp [hp]
    have d2 : (pipE r != 0) = true := by simp [hp]
    rw [hc] at CK
    generalize pipE r = E at *
    clear hA hR hn7 hm16 hn
    go_enter Try.func14, Try.ntmps14
    go_wp2_with fail
    refine CK.out.mono ?_
    rintro e w1 ⟨rfl, k1⟩
    go_wp2_with fail
    refine (CP.out _ k1).mono ?_
    rintro e w2 ⟨rfl, q2, hw2⟩
    have k2 : Kp No w w2 := by rw [hw2]; exact k1.tr (Kp.drewN No _ _)
    clear hw2
    go_wp2_with fail
    exact bodyPost_ret (v := .tuple #[.slice none 0 0, .int .i64 E]) (by simp [results, Try.results14, go_sem]) rfl (HE.out _ k2)
  have hmm := hm16 hp
  rw [hc] at CK
  rw [hp] at CP
  cases ho : oB least 0 10000000
  rotate_left
  · have HE := Lib.hid (HERR.out · · 2 (by rw [HPE.out, if_neg (fun h => h hc), if_neg (fun h => h hp), ho]; rfl) (by decide))
    rw [ho] at OUT
    clear hA hR hn7 hm16 hn hc hp ho
    go_enter Try.func14, Try.ntmps14
    go_wp2_with fail
    refine CK.out.mono ?_
    rintro e w1 ⟨rfl, k1⟩
    go_wp2_with fail
    refine (CP.out _ k1).mono ?_
    rintro e w2 ⟨rfl, q2, hw2⟩
    have k2 : Kp No w w2 := by rw [hw2]; exact k1.tr (Kp.drewN No _ _)
    clear hw2
    go_wp2_with fail
    refine (OUT.out _).mono ?_
    rintro e w3 ⟨rfl, hw3⟩
    subst hw3
    go_wp2_with fail
    exact bodyPost_ret (v := .tuple #[.slice none 0 0, .int .i64 2]) (by simp [results, Try.results14, go_sem]) rfl (HE.out _ k2)
  rw [ho] at OUT
  have hlb : 0 ≤ least ∧ least ≤ 10000000 := by unfold oB at ho; simp at ho; omega
  have HP2 := Lib.hid (show plnE l r least = if (bstN l r least ((l.length + 1) / 2) 0).2 then 0 else 4 by rw [HPE.out, if_neg (fun h => h hc), if_neg (fun h => h hp), ho]; rfl)
  have HREF := Lib.hid (ref_plan l r least HOK.out.2.2 hlb.1 hlb.2)
  have HRX := Lib.hid (pip_ok hp)
  have HKD := Lib.hid (show ∀ f ∈ l, 1 ≤ f.k ∧ f.k ≤ 4 from fun f hf => by have := kind_of (HOK.out.2.1 f hf); omega)
  obtain ⟨H, hH⟩ : ∃ H, H = (n + 1) / 2 := ⟨_, rfl⟩
  have hHi : ((n : Int) + 1) / 2 = (H : Int) := by omega
  have hH4 : H ≤ 4 := by omega
  have ALC := Lib.hid (fun w0 => rall_any H m w0 hH4 hmm)
  have HL1 := Lib.hid ((all_len H m hmm).1)
  have HPW := Lib.hid (show 16 ^ H ≤ 65536 from by
    obtain rfl | rfl | rfl | rfl | rfl : H = 0 ∨ H = 1 ∨ H = 2 ∨ H = 3 ∨ H = 4 := by omega
    all_goals decide)
  have HEA := Lib.hid (all_each H m)
  have HRP := Lib.hid (show refP l r least = (allN H m).foldl (minStep (refV l r least)) none by unfold refP; rw [HAL.out, HRL.out, hH])
  have DV := Lib.hid (fun B q cb nums w0 (k : Kp No w w0) (hB : RdI .i64 w0 B q nums) (hq : q ≤ 100000) => rDivided_any A B n ca m q cb l nums w0 (hA.no k) hB (by omega) (by omega) hq HKD.out)
  have WD := Lib.hid (fun g B cb plan w0 (k : Kp No w w0) (hB : RdL g w0 B n plan) (hpl : ∀ S ∈ plan, S.length ≤ 60 ∧ ∀ p ∈ S, 0 ≤ p ∧ p < (m : Int)) => rWidest_any g A R B n ca m cr cb l r plan w0 (hA.no k) (hR.no k) hB HOK.out.2.1 (by omega) (by omega) HRX.out.2 hpl)
  have hlen := HL1.out
  have hpw := HPW.out
  generalize allN H m = L at *
  obtain ⟨q0, hq0⟩ : ∃ q0, L.length = q0 := ⟨_, rfl⟩
  rw [hq0] at hlen ALC
  have hq0b : q0 ≤ 65536 := by omega
  have HQ0 := Lib.hid hq0
  have HHE := Lib.hid hH
  clear hA hR hn7 hm16 hc hp ho hq0 hlen hpw hH
  go_enter Try.func14, Try.ntmps14
  go_wp2_with fail
  refine CK.out.mono ?_
  rintro e w1 ⟨rfl, k1⟩
  go_wp2_with fail
  refine (CP.out _ k1).mono ?_
  rintro e w2 ⟨rfl, q2, hw2⟩
  have K2 := Lib.hid (show Kp No w w2 by rw [hw2]; exact k1.tr (Kp.drewN No _ _))
  clear hw2 k1
  go_wp2_with fail
  refine (OUT.out _).mono ?_
  rintro e w3 ⟨rfl, hw3⟩
  subst hw3
  go_wp2_with fail
  refine (ALC.out _).mono ?_
  rintro e w4 ⟨A4, c4, rfl, hrow, k4⟩
  have HRD := Lib.hid (hrow.rd)
  have K4 := Lib.hid (K2.out.tr k4)
  clear hrow k4
  go_wp2_with fail
  go_loopw [9, 10, 11, 13] (fun vb vg vf i wr => ∃ i1 : Nat, i1 ≤ q0 ∧ i = .int .i64 (i1 : Nat) ∧ BstP l n w.heap.size wr ((L.take i1).foldl (minStep (refV l r least)) none) vb vg vf ∧ Kp No w4 wr) (fun _ _ _ i _ => q0 - (intOf i).toNat)
  case atStart => exact ⟨0, by omega, rfl, ⟨rfl, rfl, rfl⟩, Kp.refl _ _⟩
  case round =>
    obtain ⟨i1, hi1, rfl, hbp, hkp⟩ := hrel
    have HB := Lib.hid hbp
    have HK := Lib.hid hkp
    have HKW := Lib.hid (K4.out.tr hkp)
    clear hbp hkp
    by_cases hlt : i1 < q0
    · obtain ⟨S, hS⟩ : ∃ S, L[i1]? = some S := ⟨_, List.getElem?_eq_getElem (by rw [HQ0.out]; exact hlt)⟩
      have hSl := HEA.out S (List.mem_of_getElem? hS)
      obtain ⟨b5, o5, A5, n5, c5, rfl, hb5, hc5, _, r5, _⟩ := (HRD.out.no HK.out).2 i1 (cI S) (intP_get hS)
      have hn5 : n5 ≤ 4 := by
        have : n5 = S.length := by rw [← r5.1, cI_len]
        omega
      have D1 := Lib.hid (DV.out A5 n5 c5 (cI S) wr HKW.out r5 (by omega))
      have HFS := Lib.hid (fold_succ (minStep (refV l r least)) none L i1 S hS)
      have hbl := hb5.2
      generalize (L.take i1).foldl (minStep (refV l r least)) none = Q at *
      clear hS r5 hb5 hSl
      go_wp2_with fail
      refine D1.out.mono ?_
      rintro e w6 ⟨k6, ⟨hd, rfl⟩ | ⟨hd, g6, he, hrw⟩⟩
      · have HQQ := Lib.hid (show (L.take (i1 + 1)).foldl (minStep (refV l r least)) none = Q by
          rw [HFS.out]
          unfold minStep
          rw [refV_false (by rw [← dvJ_nat, HRL.out]; exact hd)])
        have HB6 := Lib.hid (HB.out.no k6)
        have HK6 := Lib.hid (HK.out.tr k6)
        clear hd k6
        go_wp2_with fail
        go_roundw
        case rel => exact ⟨i1 + 1, by omega, by go_num, by rw [HQQ.out]; exact HB6.out, HK6.out⟩
        case measure => simp [intOf]; omega
      · have hdn : dvN l.length m ((l.length + 1) / 2) 0 S = true := by rw [← dvJ_nat]; exact hd
        rw [cI_toNat] at hrw
        have hpl := plan_in hdn (by omega)
        have HD2 := Lib.hid (show dvN l.length r.length ((l.length + 1) / 2) 0 S = true by rw [HRL.out]; exact hdn)
        rw [HAL.out] at he hrw
        subst he
        have hbp6 := HB.out.no k6
        have HK6 := Lib.hid (HK.out.tr k6)
        have HKW6 := Lib.hid (HKW.out.tr k6)
        have WD1 := WD.out wr.heap.size (some ⟨g6, 0, none⟩) n (intP (planN l S)) w6 HKW6.out hrw.rd hpl
        have HRW6 := Lib.hid (show RwM w.heap.size w6 g6 n (intP (planN l S)) from hrw.mono HKW.out.size)
        rw [wid_int] at WD1
        clear hd hdn hpl k6 hrw hc5 hbl
        cases hz : widN l r (planN l S) with
        | none =>
          have HQQ := Lib.hid (show (L.take (i1 + 1)).foldl (minStep (refV l r least)) none = Q by
            rw [HFS.out]
            unfold minStep
            rw [refV_none hz])
          rw [hz] at WD1
          have WD1 := Lib.hid WD1
          unfold wid3 at WD1
          dsimp only at WD1
          have HB6 := Lib.hid hbp6
          clear hz hbp6
          go_wp2_with fail
          refine WD1.out.mono ?_
          rintro e w7 ⟨rfl, k7⟩
          have HB7 := Lib.hid (HB6.out.no k7)
          have HK7 := Lib.hid (HK6.out.tr k7)
          clear k7
          go_wp2_with fail
          go_roundw
          case rel => exact ⟨i1 + 1, by omega, by go_num, by rw [HQQ.out]; exact HB7.out, HK7.out⟩
          case measure => simp [intOf]; omega
        | some p =>
          obtain ⟨M, lo⟩ := p
          have HV := Lib.hid (refV_some (least := least) HD2.out hz)
          rw [hz] at WD1
          have WD1 := Lib.hid WD1
          unfold wid3 at WD1
          dsimp only at WD1 HV
          clear hz
          by_cases hll : least ≤ lo
          rotate_left
          · have HQQ := Lib.hid (show (L.take (i1 + 1)).foldl (minStep (refV l r least)) none = Q by
              rw [HFS.out]
              unfold minStep
              rw [HV.out, if_neg hll])
            have HB6 := Lib.hid hbp6
            clear hbp6
            go_wp2_with fail
            refine WD1.out.mono ?_
            rintro e w7 ⟨rfl, k7⟩
            have HB7 := Lib.hid (HB6.out.no k7)
            have HK7 := Lib.hid (HK6.out.tr k7)
            clear k7
            go_wp2_with fail
            go_roundw
            case rel => exact ⟨i1 + 1, by omega, by go_num, by rw [HQQ.out]; exact HB7.out, HK7.out⟩
            case measure => simp [intOf]; omega
          · cases Q with
            | none =>
              have HQQ := Lib.hid (show (L.take (i1 + 1)).foldl (minStep (refV l r least)) none = some (S, M) by
                rw [HFS.out]
                unfold minStep
                rw [HV.out, if_pos hll])
              obtain ⟨rfl, rfl, rfl⟩ := hbp6
              go_wp2_with fail
              refine WD1.out.mono ?_
              rintro e w7 ⟨rfl, k7⟩
              have HR7 := Lib.hid (HRW6.out.no k7)
              have HK7 := Lib.hid (HK6.out.tr k7)
              clear k7
              go_wp2_with fail
              go_roundw
              case rel => exact ⟨i1 + 1, by omega, by go_num, by rw [HQQ.out]; exact ⟨g6, rfl, rfl, rfl, HR7.out⟩, HK7.out⟩
              case measure => simp [intOf]; omega
            | some bq =>
              obtain ⟨bS, by_⟩ := bq
              obtain ⟨g9, rfl, rfl, rfl, hr9⟩ := hbp6
              have HR9 := Lib.hid hr9
              clear hr9
              dsimp only
              by_cases hlt9 : M < by_
              · have HQQ := Lib.hid (show (L.take (i1 + 1)).foldl (minStep (refV l r least)) none = some (S, M) by
                  rw [HFS.out]
                  unfold minStep
                  rw [HV.out, if_pos hll]
                  exact if_pos hlt9)
                go_wp2_with fail
                refine WD1.out.mono ?_
                rintro e w7 ⟨rfl, k7⟩
                have HR7 := Lib.hid (HRW6.out.no k7)
                have HK7 := Lib.hid (HK6.out.tr k7)
                clear k7
                go_wp2_with fail
                go_roundw
                case rel => exact ⟨i1 + 1, by omega, by go_num, by rw [HQQ.out]; exact ⟨g6, rfl, rfl, rfl, HR7.out⟩, HK7.out⟩
                case measure => simp [intOf]; omega
              · have HQQ := Lib.hid (show (L.take (i1 + 1)).foldl (minStep (refV l r least)) none = some (bS, by_) by
                  rw [HFS.out]
                  unfold minStep
                  rw [HV.out, if_pos hll]
                  exact if_neg hlt9)
                go_wp2_with fail
                refine WD1.out.mono ?_
                rintro e w7 ⟨rfl, k7⟩
                have HR7 := Lib.hid (HR9.out.no k7)
                have HK7 := Lib.hid (HK6.out.tr k7)
                clear k7
                go_wp2_with fail
                go_roundw
                case rel => exact ⟨i1 + 1, by omega, by go_num, by rw [HQQ.out]; exact ⟨g9, rfl, rfl, rfl, HR7.out⟩, HK7.out⟩
                case measure => simp [intOf]; omega
    · obtain rfl : q0 = i1 := by omega
      have HLT := Lib.hid (show L.take q0 = L from List.take_of_length_le (by rw [HQ0.out]; exact Nat.le_refl _))
      have hb := HB.out
      rw [HLT.out, ← HRP.out, HREF.out] at hb
      cases hz : (bstN l r least ((l.length + 1) / 2) 0).2
      · rw [hz] at hb
        obtain ⟨rfl, rfl, rfl⟩ := hb
        have HE := Lib.hid (HERR.out · · 4 (by rw [HP2.out, hz]; rfl) (by decide))
        clear hz
        go_wp2_with fail
        exact bodyPost_ret (v := .tuple #[.slice none 0 0, .int .i64 4]) (by simp [results, Try.results14, go_sem]) rfl (HE.out _ HKW.out)
      · rw [hz] at hb
        obtain ⟨g, rfl, rfl, rfl, hrw⟩ := hb
        have hE0 : plnE l r least = 0 := by rw [HP2.out, hz]; rfl
        have HFIN := Lib.hid (show PlnR l r least w (.returned (.tuple #[.slice (some ⟨g, 0, none⟩) n n, .int .i64 0])) wr from ⟨HKW.out, .inr ⟨hE0, g, by rw [HAL.out], by
          unfold plnL
          rw [if_pos hE0, std_plan, HAL.out]
          rw [HAL.out] at hrw
          exact hrw⟩⟩)
        clear hz hrw hE0
        go_wp2_with fail
        exact bodyPost_ret (v := .tuple #[.slice (some ⟨g, 0, none⟩) n n, .int .i64 0]) (by simp [results, Try.results14, go_sem]) rfl HFIN.out
end Go.Proofs.Ytakgcnjpmpcekaa
