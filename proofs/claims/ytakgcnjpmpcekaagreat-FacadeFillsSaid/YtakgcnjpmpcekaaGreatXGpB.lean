/- Chapter 24: the program's Gap. -/
import Derived.Test.YtakgcnjpmpcekaaGreatXGpAM
import Derived.Test.YtakgcnjpmpcekaaGreatXPnEM
namespace Go.Proofs.YtakgcnjpmpcekaaGreat
open Go.RowKit Go.Kq

def rdS (r : List Int) (S : List Int) : List Int := S.map fun p => r.getD p.toNat 0
def gfZ (l : List Fc) (r : List Int) (plan : List (List Int)) (i : Nat) : Int := gapN (l.getD i default).w (rdS r (plan.getD i []))
def widK (l : List Fc) (r : List Int) (plan : List (List Int)) (k : Nat) : Option (Int × Int) := (List.range k).foldl (fun q i => widS q (gfZ l r plan i)) (some (0, 10000000))
def widZ (l : List Fc) (r : List Int) (plan : List (List Int)) : Option (Int × Int) := widK l r plan l.length
theorem widK_succ (l : List Fc) (r : List Int) (plan : List (List Int)) (k : Nat) : widK l r plan (k + 1) = widS (widK l r plan k) (gfZ l r plan k) := by
  unfold widK
  rw [List.range_succ, List.foldl_append]
  rfl
theorem widK_none (l : List Fc) (r : List Int) (plan : List (List Int)) {k : Nat} (h : widK l r plan k = none) : ∀ j, k ≤ j → widK l r plan j = none := fun j hj => by
  obtain ⟨d, rfl⟩ : ∃ d, j = k + d := ⟨j - k, by omega⟩
  clear hj
  induction d with
  | zero => exact h
  | succ d ih => rw [← Nat.add_assoc, widK_succ, ih]; rfl
def gapE (l : List Fc) (r : List Int) (plan : List (List Int)) : Int := if chkF l ≠ 0 then chkF l else if pipE r ≠ 0 then pipE r else if plaE l.length plan r.length ≠ 0 then plaE l.length plan r.length else if (widZ l r plan).isSome then 0 else 4
def gapG (l : List Fc) (r : List Int) (plan : List (List Int)) : Int := if gapE l r plan = 0 then ((widZ l r plan).getD (0, 0)).1 else 0
/-- What is known of a plan with nothing wrong. -/
theorem pla_ok {L : Nat} {Ls : List (List Int)} {m : Nat} (h : plaE L Ls m = 0) : Ls.length = L ∧ Ls.flatten.length ≤ 60 ∧ ∀ S ∈ Ls, S.length ≤ 60 ∧ ∀ p ∈ S, 0 ≤ p ∧ p < m := by
  unfold plaE at h
  split at h
  · cases h
  · rename_i h1
    split at h
    · cases h
    · rename_i h2
      have h60 : Ls.flatten.length ≤ 60 := by omega
      refine ⟨by omega, h60, fun S hS => ⟨?_, fun p hp => ?_⟩⟩
      · obtain ⟨k, hk, e⟩ := List.getElem_of_mem hS
        have := take_flat Ls k S (by rw [List.getElem?_eq_getElem hk, e])
        have h3 := take_flat_le Ls (k + 1)
        rw [this, List.length_append] at h3
        omega
      · have h4 := List.any_eq_false.1 (Bool.eq_false_iff.2 h2) p (List.mem_flatten.2 ⟨S, hS, hp⟩)
        unfold plaB at h4
        simp at h4
        omega
theorem rd_sum {r : List Int} (hr : ∀ x ∈ r, 1 ≤ x ∧ x ≤ 1000000) : ∀ S : List Int, 0 ≤ (rdS r S).sum ∧ (rdS r S).sum ≤ 1000000 * S.length
  | [] => by simp [rdS]
  | p :: S => by
    have ih := rd_sum hr S
    have h : 0 ≤ r.getD p.toNat 0 ∧ r.getD p.toNat 0 ≤ 1000000 := by
      rcases Nat.lt_or_ge p.toNat r.length with h | h
      · have := hr _ (getD_mem h)
        omega
      · rw [List.getD_eq_getElem?_getD, List.getElem?_eq_none h]
        simp
    simp only [rdS, List.map_cons, List.sum_cons, List.length_cons] at ih ⊢
    omega
theorem rd_take {r : List Int} {S : List Int} {k : Nat} {p : Int} (h : S[k]? = some p) : (rdS r (S.take (k + 1))).sum = (rdS r (S.take k)).sum + r.getD p.toNat 0 := by
  unfold rdS
  rw [List.take_add_one, h, List.map_append, List.sum_append]
  simp
theorem rd_len (r S : List Int) : (rdS r S).length = S.length := List.length_map _
set_option maxHeartbeats 8000000 in
set_option maxRecDepth 100000 in
theorem Gap_any (g : Nat) (A R B : Option Addr) (n ca m cr N cb : Nat) (l : List Fc) (r : List Int) (plan : List (List Int)) (w : World) (hA : RdF w A n l) (hR : RdI .i64 w R m r) (hB : RdL g w B N plan) (hn : n ≤ 100000) (hm : m ≤ 100000) (hN : N ≤ 20) (hb : ∀ S ∈ plan, S.length ≤ 70) :
    Calls Tryz.prog 13 #[.slice A n ca, .slice R m cr, .slice B N cb] w fun e w' => e = .returned (.tuple #[.int .i64 (gapG l r plan), .int .i64 (gapE l r plan)]) ∧ Kp No w w' := by
  have CK := Lib.hid (fun w0 (k : Kp No w w0) => Check_any A n ca l w0 (hA.no k) (by omega))
  have CP := Lib.hid (fun w0 (k : Kp No w w0) => fcheck_any R m cr r w0 (hR.no k) hm)
  have PL := Lib.hid (fun w0 (k : Kp No w w0) => planned_any g B A N cb n ca (m : Nat) plan w0 (hB.no k) hN hb)
  have HA := Lib.hid hA
  have HR := Lib.hid hR
  have HB := Lib.hid hB
  have HLA := Lib.hid hA.1
  have HLR := Lib.hid hR.1
  have HLB := Lib.hid hB.1
  have HGE := Lib.hid (show gapE l r plan = if chkF l ≠ 0 then chkF l else if pipE r ≠ 0 then pipE r else if plaE n plan m ≠ 0 then plaE n plan m else if (widZ l r plan).isSome then 0 else 4 by unfold gapE; rw [HLA.out, HLR.out])
  have HGG := Lib.hid (show gapG l r plan = if gapE l r plan = 0 then ((widZ l r plan).getD (0, 0)).1 else 0 from rfl)
  clear hA hR hB hb
  by_cases hc : chkF l = 0
  rotate_left
  · have HE := Lib.hid (show gapE l r plan = chkF l by rw [HGE.out, if_pos hc])
    have HG := Lib.hid (show gapG l r plan = 0 by rw [HGG.out, if_neg (by rw [HE.out]; exact hc)])
    rw [HE.out, HG.out]
    have hne : (chkF l == 0) = false := by simp [hc]
    have hne2 : (chkF l != 0) = true := by simp [hc]
    generalize chkF l = E at *
    clear hc
    go_enter Tryz.func13, Tryz.ntmps13
    go_wp2_with fail
    with_reducible refine (CK.out _ (Kp.refl _ _)).mono ?_
    rintro e w1 ⟨rfl, k1⟩
    go_wp2_with fail
    go_ret2
    exact ⟨rfl, k1⟩
  have HC := Lib.hid hc
  rw [hc] at CK
  by_cases hp : pipE r = 0
  rotate_left
  · have HE := Lib.hid (show gapE l r plan = pipE r by rw [HGE.out, if_neg (fun h => h hc), if_pos hp])
    have HG := Lib.hid (show gapG l r plan = 0 by rw [HGG.out, if_neg (by rw [HE.out]; exact hp)])
    rw [HE.out, HG.out]
    have hne : (pipE r == 0) = false := by simp [hp]
    have hne2 : (pipE r != 0) = true := by simp [hp]
    generalize pipE r = E at *
    clear hp hc
    go_enter Tryz.func13, Tryz.ntmps13
    go_wp2_with fail
    with_reducible refine (CK.out _ (Kp.refl _ _)).mono ?_
    rintro e w1 ⟨rfl, k1⟩
    go_wp2_with fail
    with_reducible refine (CP.out _ k1).mono ?_
    rintro e w2 ⟨rfl, hw⟩
    subst hw
    go_wp2_with fail
    go_ret2
    exact ⟨rfl, k1⟩
  have HP := Lib.hid hp
  rw [hp] at CP
  by_cases hq : plaE n plan m = 0
  rotate_left
  · have HE := Lib.hid (show gapE l r plan = plaE n plan m by rw [HGE.out, if_neg (fun h => h hc), if_neg (fun h => h hp), if_pos hq])
    have HG := Lib.hid (show gapG l r plan = 0 by rw [HGG.out, if_neg (by rw [HE.out]; exact hq)])
    rw [HE.out, HG.out]
    have hne2 : (plaE n plan m != 0) = true := by simp [hq]
    generalize plaE n plan m = E at *
    clear hp hc hq
    go_enter Tryz.func13, Tryz.ntmps13
    go_wp2_with fail
    with_reducible refine (CK.out _ (Kp.refl _ _)).mono ?_
    rintro e w1 ⟨rfl, k1⟩
    go_wp2_with fail
    with_reducible refine (CP.out _ k1).mono ?_
    rintro e w2 ⟨rfl, hw⟩
    subst hw
    go_wp2_with fail
    with_reducible refine (PL.out _ k1).mono ?_
    rintro e w2 ⟨rfl, k2⟩
    go_wp2_with fail
    go_ret2
    exact ⟨rfl, k1.tr k2⟩
  rw [hq] at PL
  have HE := Lib.hid (show gapE l r plan = if (widZ l r plan).isSome then 0 else 4 by rw [HGE.out, if_neg (fun h => h hc), if_neg (fun h => h hp), if_neg (fun h => h hq)])
  have hOK := Lib.hid (chk_ok hc)
  have hPO := Lib.hid (pip_ok hp)
  have hLO := Lib.hid (pla_ok hq)
  have hn12 : n ≤ 12 := by rw [← HLA.out]; exact hOK.out.1
  have hm60 : m ≤ 60 := by rw [← HLR.out]; exact hPO.out.1
  have hNn : N = n := by rw [← HLB.out]; exact hLO.out.1
  subst hNn
  clear hp hc hq HGE
  go_enter Tryz.func13, Tryz.ntmps13
  go_wp2_with fail
  with_reducible refine (CK.out _ (Kp.refl _ _)).mono ?_
  rintro e w1 ⟨rfl, k1⟩
  go_wp2_with fail
  with_reducible refine (CP.out _ k1).mono ?_
  rintro e w2 ⟨rfl, hw⟩
  subst hw
  go_wp2_with fail
  with_reducible refine (PL.out _ k1).mono ?_
  rintro e w3 ⟨rfl, k3⟩
  have HK := Lib.hid (k1.tr k3)
  clear k1 k3 CK CP PL
  go_wp2_with fail
  go_loopw [9, 33] (fun v i wr => ∃ (k : Nat) (mo lo : Int), k ≤ N ∧ i = .int .i64 (k : Nat) ∧ v = .int .i64 mo ∧ 0 ≤ mo ∧ mo ≤ 10000000 ∧ widK l r plan k = some (mo, lo) ∧ Kp No w wr) (fun _ i _ => N - (intOf i).toNat)
  case atStart => exact ⟨0, 0, 10000000, by omega, rfl, rfl, Int.le_refl _, by omega, rfl, HK.out⟩
  case round =>
    clear HK
    obtain ⟨k, mo, lo, hk, rfl, rfl, hm0, hm7, hwk, hkp⟩ := hrel
    have HWK := Lib.hid hwk
    have HK := Lib.hid hkp
    clear hwk hkp
    by_cases hlt : k < N
    · obtain ⟨f, hf⟩ : ∃ f, l[k]? = some f := ⟨_, List.getElem?_eq_getElem (by rw [HLA.out]; exact hlt)⟩
      obtain ⟨S, hS⟩ : ∃ S, plan[k]? = some S := ⟨_, List.getElem?_eq_getElem (by rw [HLB.out]; exact hlt)⟩
      obtain ⟨b, o, rfl, hbb, c0, c1⟩ := rdf_at (HA.out.no HK.out) hf
      obtain ⟨b2, o2, A', n', c', rfl, hb2, hcS, hnil, hrS, hbS⟩ := (HB.out.no HK.out).2 k S hS
      have hfb := kind_of (hOK.out.2.1 f (List.mem_of_getElem? hf))
      have hS60 := (hLO.out.2.2 S (List.mem_of_getElem? hS)).1
      have HSP := Lib.hid (hLO.out.2.2 S (List.mem_of_getElem? hS)).2
      have HSL := Lib.hid hrS.1
      have HRS := Lib.hid (hrS.no (Kp.alloc No wr (.cells #[.int .i64 f.w, .int .i64 f.k] 57)))
      have hfw := hfb.2.2
      have HGF := Lib.hid (show gfZ l r plan k = gapN f.w (rdS r S) by unfold gfZ; rw [getD_at hf, List.getD_eq_getElem?_getD, hS]; rfl)
      have HWS := Lib.hid (widK_succ l r plan k)
      have hn60 : n' ≤ 60 := by rw [← HSL.out]; exact hS60
      have HBD := Lib.hid (fun j => rd_sum hPO.out.2 (S.take j))
      have hb3 := hb2.2
      obtain ⟨fw, fk⟩ := f
      dsimp only at c0 c1 hfw HGF
      clear hf hS hfb hS60 hrS hbS hb2 hnil
      have HKA := Lib.hid (HK.out.tr (Kp.alloc No wr (.cells #[.int .i64 fw, .int .i64 fk] 57)))
      have hcS2 : (wr.alloc (.cells #[.int .i64 fw, .int .i64 fk] 57)).cell? ⟨b2, o2 + k, none⟩ = some (.slice A' n' c') := (Kp.alloc No wr _).cell hcS id
      go_wp2_with fail
      generalize wr.alloc (.cells #[.int .i64 fw, .int .i64 fk] 57) = wo at *
      go_loop [12, 45] (fun v i => ∃ j : Nat, j ≤ n' ∧ i = .int .i64 (j : Nat) ∧ v = .int .i64 (fw - 2 * (rdS r (S.take j)).sum)) (fun _ i => n' - (intOf i).toNat)
      case atStart => exact ⟨0, by omega, rfl, by simp [rdS]⟩
      case round =>
        obtain ⟨j, hj, rfl, rfl⟩ := hrel
        have hbd := HBD.out j
        have hjl : (S.take j).length ≤ 60 := by rw [List.length_take]; omega
        have hbd2 : 0 ≤ (rdS r (S.take j)).sum ∧ (rdS r (S.take j)).sum ≤ 60000000 := ⟨hbd.1, by omega⟩
        clear hbd
        by_cases hlj : j < n'
        · obtain ⟨p, hp⟩ : ∃ p, S[j]? = some p := ⟨_, List.getElem?_eq_getElem (by rw [HSL.out]; exact hlj)⟩
          obtain ⟨b4, o4, rfl, hb4, hc4⟩ := (HRS.out.no (Kp.refl _ _)).2 j p hp
          have hpr := HSP.out p (List.mem_of_getElem? hp)
          obtain ⟨pn, rfl⟩ : ∃ pn : Nat, p = (pn : Int) := ⟨p.toNat, by omega⟩
          obtain ⟨x, hx⟩ : ∃ x, r[pn]? = some x := ⟨_, List.getElem?_eq_getElem (by rw [HLR.out]; omega)⟩
          obtain ⟨b5, o5, rfl, hb5, hc5⟩ := (HR.out.no HKA.out).2 pn x hx
          have hx1 := hPO.out.2 x (List.mem_of_getElem? hx)
          have HT := Lib.hid (show (rdS r (S.take (j + 1))).sum = (rdS r (S.take j)).sum + x by rw [rd_take hp, Int.toNat_natCast, intD_at hx])
          have hpm : pn < m := by omega
          clear hx hp hpr
          generalize (rdS r (S.take j)).sum = T at *
          go_wp2_with fail
          go_round
          case rel => exact ⟨j + 1, by omega, by go_num, by rw [HT.out]; congr 1; omega⟩
          case measure => simp [intOf]; omega
        · obtain rfl : j = n' := by omega
          have hST : S.take j = S := List.take_of_length_le (by rw [HSL.out]; exact Nat.le_refl _)
          rw [hST] at hbd2 ⊢
          have hg := HGF.out
          unfold gapN at hg
          rw [rd_len, HSL.out] at hg
          have hws := HWS.out
          rw [HWK.out] at hws
          clear hST
          generalize (rdS r S).sum = T at *
          by_cases hneg : fw - 2 * T < 0
          · rw [if_pos hneg] at hg
            rw [hg] at hws
            have HZ := Lib.hid (show widZ l r plan = none from widK_none l r plan (k := k + 1) (by rw [hws]; rfl) l.length (by rw [HLA.out]; omega))
            have HE2 := Lib.hid (show gapE l r plan = 4 by rw [HE.out, HZ.out]; rfl)
            have HG2 := Lib.hid (show gapG l r plan = 0 by rw [HGG.out, if_neg (by rw [HE2.out]; decide)])
            clear hg hws
            go_wp2_with fail
            go_ret2
            exact ⟨by rw [HE2.out, HG2.out]; rfl, HKA.out⟩
          · rw [if_neg hneg] at hg
            obtain ⟨gg, hgg⟩ : ∃ gg, gg = (fw - 2 * T) / ((j : Int) + 1) := ⟨_, rfl⟩
            have hg0 : 0 ≤ gg := by rw [hgg]; exact Int.ediv_nonneg (by omega) (by omega)
            have hg1 : gg ≤ fw - 2 * T := by rw [hgg]; exact Int.ediv_le_self _ (by omega)
            have hge : (fw - 2 * T) / ((j : Int) + 1) = gg := hgg.symm
            rw [hge] at hg
            rw [hg] at hws
            obtain ⟨mx, hmx⟩ : ∃ mx, mx = max mo gg := ⟨_, rfl⟩
            have hmxe : max mo gg = mx := hmx.symm
            have hmxi : (if mo < gg then gg else mo) = mx := by rw [hmx]; split <;> omega
            have hmx0 : 0 ≤ mx ∧ mx ≤ 10000000 := by omega
            have HW2 := Lib.hid (show widK l r plan (k + 1) = some (mx, min lo gg) by
              rw [hws]
              show (if gg < 0 then none else some (max mo gg, min lo gg)) = _
              rw [if_neg (by omega), hmx])
            clear hg hws hgg hmx
            have hcS3 : wo.cell? ⟨b2, o2 + k, none⟩ = some (.slice A' j c') := hcS2
            go_wp2_with fail
            go_roundw
            case rel => exact ⟨k + 1, mx, _, by omega, by go_num, by first | rfl | rw [← hmxe], hmx0.1, hmx0.2, HW2.out, HKA.out⟩
            case measure => simp [intOf]; omega
    · obtain rfl : k = N := by omega
      have HWZ := Lib.hid (show widZ l r plan = some (mo, lo) by unfold widZ; rw [HLA.out]; exact HWK.out)
      have HE2 := Lib.hid (show gapE l r plan = 0 by rw [HE.out, HWZ.out]; rfl)
      have HG2 := Lib.hid (show gapG l r plan = mo by rw [HGG.out, if_pos HE2.out, HWZ.out]; rfl)
      go_wp2_with fail
      go_ret2
      exact ⟨by rw [HE2.out, HG2.out]; rfl, HK.out⟩
end Go.Proofs.YtakgcnjpmpcekaaGreat
