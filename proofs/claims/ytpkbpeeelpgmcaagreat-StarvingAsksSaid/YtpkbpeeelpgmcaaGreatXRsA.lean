/- Chapter 15: the document's numbers (those whose bits are set) and its test of a combination by all sets of nodes. -/
import Derived.Deep.Cut
import Derived.Test.YtpkbpeeelpgmcaaGreatXRdOM
import Derived.Test.YtpkbpeeelpgmcaaGreatXLprQM
import Derived.Test.YtpkbpeeelpgmcaaGreatXWdEM
namespace Go.Proofs.YtpkbpeeelpgmcaaGreat
open Go.RowKit Go.Kq Go.Flow

set_option maxRecDepth 100000 in
set_option maxHeartbeats 4000000 in
theorem numbers_any (t m : Nat) (ht : t < 2 ^ 20) (hm : m ≤ 16) (w : World) :
    Calls Tryz.prog 30 #[.int .i64 (t : Nat), .int .i64 (m : Nat)] w fun e w' => ∃ A c, e = .returned (.slice A (numB t m).length c) ∧ w'.ownsRow w.heap.size 3 1 (.slice A (numB t m).length c) (numB t m).length (((numB t m).map Int.ofNat).map (Value.int .i64)) ∧ Kp No w w' := by
  go_enter Tryz.func30, Tryz.ntmps30
  go_wp2_with fail
  go_loopw [5, 6] (fun vl vi wr => ∃ (j : Nat) (D : Option Addr) (c : Nat), j ≤ m ∧ vi = .int .i64 (j : Nat) ∧ vl = .slice D (numB t j).length c ∧ wr.ownsRow w.heap.size 3 1 (.slice D (numB t j).length c) (numB t j).length (((numB t j).map Int.ofNat).map (Value.int .i64)) ∧ Kp No w wr) (fun _ vi _ => m - (intOf vi).toNat)
  case atStart => exact ⟨0, none, 0, by omega, rfl, rfl, ⟨rfl, .inl ⟨rfl, rfl⟩⟩, Kp.refl _ _⟩
  case round =>
    obtain ⟨j, D, c, hjm, rfl, rfl, hown, hkp⟩ := hrel
    have HO := Lib.hid hown
    have HKP := Lib.hid hkp
    clear hown
    by_cases hlj : j < m
    · have hbit := bit_is t j ht
      have hbe := bit_eq t j
      have HN := Lib.hid (numB_succ t j)
      have hnl := numB_len t j
      clear hkp
      cases hbv : bitR t j with
      | false =>
        rw [hbv] at hbe
        have hE : numB t (j + 1) = numB t j := by
          rw [HN.out]
          unfold bitR at hbv
          rw [hbv]
          simp
        have HE := Lib.hid hE
        clear hbv hE
        go_wp2_with fail
        go_roundw
        case rel => exact ⟨j + 1, D, c, by omega, by go_num, by rw [HE.out], by rw [HE.out]; exact HO.out, HKP.out⟩
        case measure => simp [intOf]; omega
      | true =>
        rw [hbv] at hbe
        have hE : numB t (j + 1) = numB t j ++ [j] := by
          rw [HN.out]
          unfold bitR at hbv
          rw [hbv]
          simp
        have HE := Lib.hid hE
        clear hbv hE
        go_wp2_with (at_builtin; refine stop_in ?_)
        refine stop_out ?_
        refine push_int rfl _ _ rfl w.heap.size D (numB t j).length c ((numB t j).map Int.ofNat) (j : Int) rfl rfl rfl (List.length_map _) (by unfold OwI; rw [List.length_map]; exact HO.out) (by omega) HKP.out (Nat.le_refl _) HKP.out.size ?_
        intro G7 c7 w7 hown7 hk7 _
        have O7 := Lib.hid hown7
        have K7 := Lib.hid hk7
        clear hown7 hk7
        go_wp2_with fail
        go_roundw
        case rel =>
          refine ⟨j + 1, some ⟨G7, 0, none⟩, c7, by omega, by go_num, by rw [HE.out]; simp, ?_, K7.out⟩
          rw [HE.out]
          have h := O7.out
          unfold OwI at h
          simp only [List.map_append, List.map_cons, List.map_nil, List.length_append, List.length_cons, List.length_nil, Nat.zero_add, List.length_map] at h ⊢
          exact h
        case measure => simp [intOf]; omega
    · obtain rfl : j = m := by omega
      clear hkp
      go_wp2_with fail
      go_ret
      exact ⟨D, c, rfl, HO.out, HKP.out⟩
/-! ## The sets of nodes that contain 0, as numbers -/
def inS (n t : Nat) : List Bool := (List.range n).map fun i => if i = 0 then true else t.testBit (i - 1)
theorem inS_len (n t : Nat) : (inS n t).length = n := by simp [inS]
theorem inS_at {n t i : Nat} (h : i < n) : ofRow (inS n t) i = if i = 0 then true else t.testBit (i - 1) := by
  unfold ofRow inS
  rw [List.getD_eq_getElem?_getD, List.getElem?_map, List.getElem?_range h]
  rfl
/-- One of the first k sets proves it. -/
def stvK (N : Net) (ds : List Int) (k : Nat) : Bool := (List.range k).any fun t => decide (0 < sumZ ds - N.wt false ds (ofRow (inS N.n t)))
theorem stvK_succ (N : Net) (ds : List Int) (k : Nat) : stvK N ds (k + 1) = (stvK N ds k || decide (0 < sumZ ds - N.wt false ds (ofRow (inS N.n k)))) := by
  unfold stvK
  rw [List.range_succ, List.any_append]
  simp
theorem stvK_all {N : Net} (hN : N.Ok) (ds : List Int) : stvK N ds (2 ^ (N.n - 1)) = true ↔ Stv N ds := by
  have h1 := hN.n1
  unfold stvK
  rw [List.any_eq_true]
  constructor
  · rintro ⟨t, _, h⟩
    rw [decide_eq_true_eq] at h
    refine ⟨ofRow (inS N.n t), ⟨?_, ?_⟩, by omega⟩
    · rw [inS_at (by omega)]
      rfl
    · unfold ofRow
      rw [List.getD_eq_getElem?_getD, List.getElem?_eq_none (by rw [inS_len]; exact Nat.le_refl _)]
      rfl
  · rintro ⟨R, hR, h⟩
    refine ⟨bitsOf (fun i => R (i + 1)) (N.n - 1), List.mem_range.2 (bitsOf_lt _ _), ?_⟩
    rw [decide_eq_true_eq]
    have e := wtP_congr hN ds (R := ofRow (inS N.n (bitsOf (fun i => R (i + 1)) (N.n - 1)))) (R' := R) fun v hv => by
      rw [inS_at hv, bitsOf_bit]
      by_cases h0 : v = 0
      · subst h0
        exact hR.1.symm
      · rw [if_neg h0, show v - 1 + 1 = v by omega, decide_eq_true (show v - 1 < N.n - 1 by omega), Bool.true_and]
    rw [e]
    omega
/-- The row as it is filled: those below j stand. -/
def rowS (n t j : Nat) : List Value := (List.range n).map fun i => .bool (if i = 0 then true else if i < j then t.testBit (i - 1) else false)
theorem rowS_one (n t : Nat) : (List.replicate n (Value.bool false)).set 0 (.bool true) = rowS n t 1 := by
  unfold rowS
  apply List.ext_getElem (by simp)
  intro i h1 h2
  rw [List.getElem_set]
  by_cases e : i = 0
  · subst e
    simp
  · have e2 : ¬ 0 = i := fun h => e h.symm
    simp [e, e2]
theorem rowS_set {n t j : Nat} (hj : 1 ≤ j) (_hn : j < n) : (rowS n t j).set j (.bool (t.testBit (j - 1))) = rowS n t (j + 1) := by
  unfold rowS
  apply List.ext_getElem (by simp)
  intro i h1 h2
  rw [List.getElem_set]
  by_cases e : j = i
  · subst e
    have e0 : j ≠ 0 := by omega
    simp [e0]
  · by_cases h0 : i = 0
    · subst h0
      simp [e]
    · by_cases hlt : i < j
      · have : i < j + 1 := by omega
        simp [e, h0, hlt, this]
      · have : ¬ i < j + 1 := by omega
        simp [e, h0, hlt, this]
theorem rowS_all (n t : Nat) : (inS n t).flatMap b1 = rowS n t n := by
  unfold b1 rowS inS
  rw [List.flatMap_map]
  refine (flat_one _ _).trans ?_
  refine List.map_congr_left fun i hi => ?_
  have := List.mem_range.1 hi
  simp [this]
theorem rowS_at {n t j i : Nat} (h : i < n) : (rowS n t j)[i]? = some (.bool (if i = 0 then true else if i < j then t.testBit (i - 1) else false)) := by
  unfold rowS
  rw [List.getElem?_map, List.getElem?_range h]
  rfl
set_option maxHeartbeats 8000000 in
set_option maxRecDepth 100000 in
theorem rstarves_any (N : Net) (hN : N.Ok) (h7 : N.n ≤ 7) (l : List Sto) (vs : List Sv) (A B C P Q : Option Addr) (ca cb n cc p cp q cq : Nat) (ss ks : List Nat) (w : World) (hR : RdNet w A B N) (hS : RdSt w C n vs l) (hP : RdI .i64 w P p (ss.map Int.ofNat)) (hQ : RdI .i64 w Q q (ks.map Int.ofNat)) (hok : StoOk N.ch.length l) (hss : ∀ x ∈ ss, x < n) (hks : ∀ x ∈ ks, x < keysN l) (s8 : ss.length ≤ 8) (k8 : ks.length ≤ 8) :
    Calls Tryz.prog 27 #[windV (nz N) A B C ca cb n cc, comboV P p cp Q q cq] w fun e w' => e = .returned (.bool (starB N l ss ks)) ∧ Kp No w w' := by
  obtain ⟨g, hg⟩ : ∃ g, g = w.heap.size := ⟨_, rfl⟩
  obtain ⟨w0, hw0⟩ : ∃ w0, (w.alloc (.cells #[.int .i64 N.n, .slice A N.tr.length ca, .slice B N.ch.length cb, .slice C n cc] 28)).alloc (.cells #[.slice P p cp, .slice Q q cq] 30) = w0 := ⟨_, rfl⟩
  have hk0 : Kp No w w0 := by rw [← hw0]; exact (Kp.alloc _ _ _).tr (Kp.alloc _ _ _)
  have HBX := Lib.hid (show w0.heap[g]? = some (.cells #[.int .i64 N.n, .slice A N.tr.length ca, .slice B N.ch.length cb, .slice C n cc] 28 (0, 0)) by rw [← hw0, hg]; exact (Kp.alloc No _ _).heap (heap_alloc_new w _) id)
  have HBC := Lib.hid (show w0.heap[g + 1]? = some (.cells #[.slice P p cp, .slice Q q cq] 30 (0, 0)) by
    rw [← hw0, hg]
    have := heap_alloc_new (w.alloc (.cells #[.int .i64 N.n, .slice A N.tr.length ca, .slice B N.ch.length cb, .slice C n cc] 28)) (.cells #[.slice P p cp, .slice Q q cq] 30)
    simpa using this)
  have HK := Lib.hid hk0
  have hc16 := hN.c1
  have hn1 := hN.n1
  have DM := rdemand_any (nz N) l vs A B C P Q ca cb n cc p cp q cq ss ks w0 (by rw [nz_ch]; exact hok) (by rw [nz_ch]; omega) (hS.no hk0) (hP.no hk0) (hQ.no hk0) hss hks s8 k8
  have HSV := Lib.hid (show stvK N (dmd N.ch.length l ss ks) (2 ^ (N.n - 1)) = starB N l ss ks by
    rw [Bool.eq_iff_iff, stvK_all hN, starB_iff])
  have HDB := Lib.hid (dmd_bd hok s8 k8)
  have HDL := Lib.hid (dmd_len N.ch.length l ss ks)
  unfold windV comboV at DM ⊢
  unfold DmR at DM
  rw [nz_ch, nz_tr] at DM
  rw [nz_ch, nz_tr]
  simp only [show (nz N).n = (N.n : Int) from rfl] at DM ⊢
  generalize dmd N.ch.length l ss ks = ds at *
  have HR := Lib.hid (hR.no hk0)
  have OU := Lib.hid (fun D V dc vc t W (hR : RdNet W A B N) (hD : RdI .i64 W D N.ch.length ds) hV => Outside_any N hN A B D V ca cb dc vc ds (inS N.n t) W hR hD hV (fun d hd => by have := HDB.out d hd; omega))
  replace DM := Lib.hid DM
  obtain ⟨T, hT⟩ : ∃ T : Nat, T = 2 ^ (N.n - 1) := ⟨_, rfl⟩
  have hT64 : T ≤ 64 := by
    rw [hT]
    exact Nat.pow_le_pow_right (by omega) (show N.n - 1 ≤ 6 by omega)
  have hTw : wrap64 ((2 : Int) ^ (N.n - 1)) = (T : Int) := by
    have : ((2 : Int) ^ (N.n - 1)) = (T : Int) := by rw [hT]; simp
    rw [this]
    exact IntWalk.wrap64_in _ (by omega)
  rw [← hT] at HSV
  have HT := Lib.hid hT
  have hmk := make_bools N.n (by omega)
  clear hk0 hR hS hP hQ hok hN hT
  obtain ⟨p0, p1, p2, p3⟩ := four_at HBX.out
  obtain ⟨q0, q1, _, _⟩ := cell_head HBC.out
  subst hg
  go_enter Tryz.func27, Tryz.ntmps27
  go_wp2_with fail
  with_reducible refine DM.out.mono ?_
  rintro e w1 ⟨G, rfl, ho, k1⟩
  have HD := Lib.hid (show RdI .i64 w1 (some ⟨G, 0, none⟩) N.ch.length ds from RdI.of_own ho)
  have K1 := Lib.hid k1
  have B1 := Lib.hid (k1.heap HBX.out id)
  clear p0 p1 p2 p3 q0 q1 k1 ho
  go_wp2_with fail
  go_loopw [6] (fun vi wr => ∃ t : Nat, t ≤ T ∧ vi = .int .i64 (t : Nat) ∧ stvK N ds t = false ∧ Kp No w1 wr) (fun vi _ => T - (intOf vi).toNat)
  case atStart => exact ⟨0, by omega, rfl, rfl, Kp.refl _ _⟩
  case round =>
    obtain ⟨t, ht, rfl, hno, hkp⟩ := hrel
    have HNO := Lib.hid hno
    have HKP := Lib.hid hkp
    have BW := Lib.hid (hkp.heap B1.out id)
    obtain ⟨p0, p1, p2, p3⟩ := four_at BW.out
    clear hkp hno
    by_cases hlt : t < T
    · obtain ⟨wo, rfl⟩ : ∃ wo, wo = wr := ⟨_, rfl⟩
      have ht20 : t < 2 ^ 20 := by omega
      have hn0 : (0 : Int) < (N.n : Int) := by omega
      go_upto_region 6 with (fail)
      obtain ⟨u6, hu6⟩ : ∃ u6, wo.alloc (.cells (Array.replicate N.n (Value.bool false)) 4) = u6 := ⟨_, rfl⟩
      have hk6 : Kp No wo u6 := by rw [← hu6]; exact Kp.alloc _ _ _
      have H0 := Lib.hid (show u6.heap[wo.heap.size]? = some (.cells (List.replicate N.n (Value.bool false)).toArray 4 (0, 0)) from by rw [← hu6, List.toArray_replicate]; exact heap_alloc_new wo _)
      rw [hu6]
      clear hu6 p0 p1 p2 p3
      obtain ⟨gi, hgi⟩ : ∃ gi, gi = wo.heap.size := ⟨_, rfl⟩
      rw [← hgi] at H0 ⊢
      have n0 : u6.cell? ⟨gi, 0, none⟩ = some (.bool false) := by
        rw [cell_of_row _ _ _ _ _ _ H0.out, List.getElem?_toArray, List.getElem?_replicate, if_pos (by omega)]
      have n1 : u6.frozen? ⟨gi, 0, none⟩ = false := by simp [World.frozen?, H0.out]
      have HGI := Lib.hid hgi
      have HK6 := Lib.hid hk6
      clear hgi hk6
      go_wp2_with fail
      have hs7 : (u6.setCell ⟨gi, 0, none⟩ (.bool true)).heap[gi]? = some (.cells (rowS N.n t 1).toArray 4 (0, 0)) := by
        rw [← rowS_one]
        exact heap_set H0.out _
      have hk7 : Kp (Kq.One gi) u6 (u6.setCell ⟨gi, 0, none⟩ (.bool true)) := kp_setOne _ _ _ _
      generalize u6.setCell ⟨gi, 0, none⟩ (.bool true) = u7 at hs7 hk7 ⊢
      have H7 := Lib.hid hs7
      have K7 := Lib.hid hk7
      clear hs7 hk7 n0 n1
      go_loopw [8] (fun vi wr => ∃ j : Nat, 1 ≤ j ∧ j ≤ N.n ∧ vi = .int .i64 (j : Nat) ∧ wr.heap[gi]? = some (.cells (rowS N.n t j).toArray 4 (0, 0)) ∧ Kp (Kq.One gi) u6 wr) (fun vi _ => N.n - (intOf vi).toNat)
      case atStart => exact ⟨1, by omega, by omega, rfl, H7.out, K7.out⟩
      case round =>
        obtain ⟨j, hj1, hj, rfl, hin, hkp⟩ := hrel
        have HIN := Lib.hid hin
        have HKI := Lib.hid hkp
        have HKU := Lib.hid (show Kp No wo wr from HK6.out.trans hkp fun b hb e => by have e : b = gi := e; have := HGI.out; omega)
        have BI := Lib.hid (HKU.out.heap BW.out id)
        obtain ⟨p0, p1, p2, p3⟩ := four_at BI.out
        clear hin hkp
        by_cases hlj : j < N.n
        · have hbit := bit_is t (j - 1) ht20
          have hbe := bit_eq t (j - 1)
          have hlj' : (j : Int) < (N.n : Int) := by omega
          have z1 : wr.cell? ⟨gi, j, none⟩ = some (.bool false) := by
            rw [cell_of_row _ _ _ _ _ _ HIN.out]
            have h := rowS_at (t := t) (j := j) hlj
            rw [if_neg (by omega), if_neg (by omega)] at h
            simpa using h
          have z2 : wr.frozen? ⟨gi, j, none⟩ = false := by simp [World.frozen?, HIN.out]
          have HST := Lib.hid (show (rowS N.n t j).set j (.bool (bitR t (j - 1))) = rowS N.n t (j + 1) from rowS_set (t := t) hj1 hlj)
          go_wp2_with fail
          go_roundw
          case rel =>
            refine ⟨j + 1, by omega, by omega, by go_num, ?_, HKI.out.tr (kp_setOne _ _ _ _)⟩
            rw [← HST.out]
            exact heap_set HIN.out _
          case measure => simp [intOf]; omega
        · obtain ⟨nn, hnn⟩ : ∃ nn, nn = N.n := ⟨_, rfl⟩
          have hje : j = N.n := by omega
          have OX := Lib.hid (OU.out (some ⟨G, 0, none⟩) (some ⟨gi, 0, none⟩) N.ch.length N.n t wr (HR.out.no (K1.out.tr (HKP.out.tr HKU.out))) (HD.out.no (HKP.out.tr HKU.out)) (by
            have h := HIN.out
            rw [hje, ← rowS_all] at h
            have h2 := rd_heap (f := b1) (fun _ => rfl) rfl h
            rwa [inS_len] at h2))
          have HSS := Lib.hid (stvK_succ N ds t)
          unfold netV at OX
          clear hje hnn
          obtain ⟨dv, hdv⟩ : ∃ dv, sumZ ds - N.wt false ds (ofRow (inS N.n t)) = dv := ⟨_, rfl⟩
          rw [hdv] at OX HSS
          clear hdv
          by_cases hpos : 0 < dv
          · have d1 : decide (0 < dv) = true := decide_eq_true hpos
            have HE := Lib.hid (show starB N l ss ks = true by
              rw [← HSV.out]
              have h := HSS.out
              rw [d1, Bool.or_true] at h
              unfold stvK at h ⊢
              rw [List.any_eq_true] at h ⊢
              obtain ⟨x, h1, h2⟩ := h
              exact ⟨x, List.mem_range.2 (by have := List.mem_range.1 h1; omega), h2⟩)
            clear hpos
            go_wp2_with fail
            with_reducible refine OX.out.mono ?_
            rintro e w5 ⟨rfl, k5⟩
            go_wp2_with fail
            go_ret
            exact ⟨by rw [HE.out]; rfl, HK.out.tr (K1.out.tr (HKP.out.tr (HKU.out.tr k5)))⟩
          · have d1 : decide (0 < dv) = false := decide_eq_false hpos
            have HE := Lib.hid (show stvK N ds (t + 1) = false by rw [HSS.out, HNO.out, d1]; rfl)
            clear hpos
            go_wp2_with fail
            with_reducible refine OX.out.mono ?_
            rintro e w5 ⟨rfl, k5⟩
            have K5 := Lib.hid (HKP.out.tr (HKU.out.tr k5))
            clear k5 p0 p1 p2 p3
            go_wp2_with fail
            go_roundw
            case rel => exact ⟨t + 1, by omega, by go_num, HE.out, K5.out⟩
            case measure => simp [intOf]; omega
    · obtain rfl : t = T := by omega
      have HE := Lib.hid (show starB N l ss ks = false by rw [← HSV.out]; exact HNO.out)
      go_wp2_with fail
      go_ret
      exact ⟨by rw [HE.out]; rfl, HK.out.tr (K1.out.tr HKP.out)⟩
end Go.Proofs.YtpkbpeeelpgmcaaGreat
