/- Chapter 27: the statements' counting: plain and the walk. · Chapter 27: the reference's undone; Undone of both: walks. -/
import Derived.Test.YtjbpdimepckmfaaXUndM
import Derived.Test.YtjbpdimepckmfaaXMrgP
import Derived.Test.YtjbpdimepckmfaaXRmgM
import Derived.Test.YtjbpdimepckmfaaXRch
namespace Go.Proofs.Ytjbpdimepckmfaa
open Go.RowKit Go.Kq

/-- Is work k the one that work i names? -/
def hits (l : List Wk) (i k : Nat) : Bool := match l[i]?, l[k]? with
  | some v, some u => decide (u.nm = v.onm)
  | _, _ => false
/-- The works ahead of k that work i names are struck. -/
def lawK (l : List Wk) (i : Nat) : Nat → List Bool → List Bool
  | 0, out => out
  | k + 1, out => if hits l i k then (lawK l i k out).set k false else lawK l i k out
def isU (l : List Wk) (i : Nat) : Bool := match l[i]? with
  | some v => decide (v.kd = 4)
  | none => false
def lawS (l : List Wk) (i : Nat) (out : List Bool) : List Bool := if out.getD i false && isU l i then lawK l i i out else out
def law0 (n : Nat) (wo : Int) : List Bool := (List.range n).map fun i : Nat => (i : Int) != wo
def lawAt (l : List Wk) (wo : Int) : Nat → List Bool
  | 0 => law0 l.length wo
  | m + 1 => lawS l (l.length - 1 - m) (lawAt l wo m)
def lawL (l : List Wk) (wo : Int) : List Bool := lawAt l wo l.length
theorem lawK_len (l : List Wk) (i : Nat) (out : List Bool) : ∀ k, (lawK l i k out).length = out.length
  | 0 => rfl
  | k + 1 => by
    rw [lawK]
    split
    · rw [List.length_set, lawK_len l i out k]
    · exact lawK_len l i out k
theorem lawS_len (l : List Wk) (i : Nat) (out : List Bool) : (lawS l i out).length = out.length := by
  unfold lawS
  split
  · exact lawK_len _ _ _ _
  · rfl
theorem lawAt_len (l : List Wk) (wo : Int) : ∀ m, (lawAt l wo m).length = l.length
  | 0 => by simp [lawAt, law0]
  | m + 1 => by rw [lawAt, lawS_len, lawAt_len l wo m]
theorem lawK_ge (l : List Wk) (i : Nat) (out : List Bool) : ∀ k j, k ≤ j → (lawK l i k out)[j]? = out[j]?
  | 0, _, _ => rfl
  | k + 1, j, h => by
    rw [lawK]
    split
    · rw [List.getElem?_set_ne (by omega), lawK_ge l i out k j (by omega)]
    · exact lawK_ge l i out k j (by omega)
/-- Names being apart, at most one work is struck. -/
theorem lawK_one {l : List Wk} (hN : Names l) {i : Nat} {v : Wk} (hv : l[i]? = some v) (out : List Bool) : ∀ k, k ≤ l.length → lawK l i k out = match findN (l.take k) v.onm with | some j => out.set j false | none => out
  | 0, _ => rfl
  | k + 1, hk => by
    obtain ⟨u, hu⟩ : ∃ u, l[k]? = some u := ⟨_, List.getElem?_eq_getElem (by omega)⟩
    have hh : hits l i k = decide (u.nm = v.onm) := by unfold hits; rw [hv, hu]
    have hlen : (l.take k).length = k := by rw [List.length_take]; omega
    rw [lawK, hh, lawK_one hN hv out k (by omega), List.take_add_one, hu]
    unfold findN
    rw [Option.toList_some, List.findIdx?_append, hlen]
    by_cases h : u.nm = v.onm
    · rw [if_pos (by simpa using h)]
      have hno : (l.take k).findIdx? (fun x => decide (x.nm = v.onm)) = none := by
        rw [List.findIdx?_eq_none_iff]
        intro x hx
        obtain ⟨j, hj⟩ := List.getElem?_of_mem hx
        have hjl := (List.getElem?_eq_some_iff.1 hj).1
        rw [hlen] at hjl
        rw [List.getElem?_take_of_lt hjl] at hj
        have h2 : ¬ x.nm = v.onm := fun e => by have := hN j k x u hj hu (by rw [e, h]); omega
        simpa using h2
      rw [hno]
      simp [List.findIdx?_cons, h]
    · rw [if_neg (by simpa using h)]
      cases hf : (l.take k).findIdx? (fun x => decide (x.nm = v.onm)) <;> simp [List.findIdx?_cons, h]
theorem findN_take {l : List Wk} (hN : Names l) {i : Nat} (x : Nm) : findN (l.take i) x = match findN l x with | some k => if k < i then some k else none | none => none := by
  cases h : findN l x with
  | none =>
    have h2 := findN_none.1 h
    exact findN_none.2 fun u hu => h2 u (List.mem_of_mem_take hu)
  | some k =>
    obtain ⟨u, hu, hx⟩ := findN_at h
    simp only
    by_cases hk : k < i
    · rw [if_pos hk]
      have hN2 : Names (l.take i) := fun a b p q hp hq e => by
        have ha := (List.getElem?_eq_some_iff.1 hp).1
        have hb := (List.getElem?_eq_some_iff.1 hq).1
        rw [List.length_take] at ha hb
        rw [List.getElem?_take_of_lt (by omega)] at hp hq
        exact hN a b p q hp hq e
      rw [← hx]
      exact findN_of hN2 (by rw [List.getElem?_take_of_lt hk]; exact hu)
    · rw [if_neg hk]
      refine findN_none.2 fun v hv e => ?_
      obtain ⟨j, hj⟩ := List.getElem?_of_mem hv
      have hjl := (List.getElem?_eq_some_iff.1 hj).1
      rw [List.length_take] at hjl
      rw [List.getElem?_take_of_lt (by omega)] at hj
      have := hN j k v u hj hu (by rw [e, hx])
      omega
/-- A step of the statements' counting strikes the work that the program says is undone. -/
theorem lawS_eq {l : List Wk} (hN : Names l) (i : Nat) (out : List Bool) : lawS l i out = match tgt l i with | some k => if out.getD i false then out.set k false else out | none => out := by
  unfold lawS isU tgt
  cases hv : l[i]? with
  | none => simp
  | some v =>
    have hi := (List.getElem?_eq_some_iff.1 hv).1
    simp only
    by_cases h4 : v.kd = 4
    · have e1 : decide (v.kd = 4) = true := decide_eq_true h4
      simp only [e1, Bool.and_true]
      rw [if_pos h4, lawK_one hN hv out i (by omega), findN_take hN]
      cases hf : findN l v.onm with
      | none => simp
      | some k =>
        simp only
        by_cases hk : k < i
        · rw [if_pos hk]
        · rw [if_neg hk]
          simp
    · have e1 : decide (v.kd = 4) = false := decide_eq_false h4
      simp only [e1, Bool.and_false]
      rw [if_neg h4]
      rfl
theorem map_not_set (l : List Bool) (k : Nat) (b : Bool) : (l.set k b).map (!·) = (l.map (!·)).set k (!b) := by rw [List.map_set]
/-- With none left out: what counts is what is not undone. -/
theorem lawAt_und {l : List Wk} (hN : Names l) : ∀ m, m ≤ l.length → lawAt l (-1) m = (undAt l m).map (!·)
  | 0, _ => by
    unfold lawAt undAt law0
    rw [List.map_replicate]
    apply List.ext_getElem?
    intro i
    by_cases hi : i < l.length
    · rw [List.getElem?_map, List.getElem?_range hi, List.getElem?_replicate, if_pos hi]
      simp
    · rw [List.getElem?_eq_none (by simp; omega), List.getElem?_eq_none (by simp; omega)]
  | m + 1, hm => by
    rw [lawAt, undAt, lawAt_und hN m (by omega), lawS_eq hN]
    unfold undS
    cases ht : tgt l (l.length - 1 - m) with
    | none => rfl
    | some k =>
      simp only
      have hlt : l.length - 1 - m < (undAt l m).length := by rw [undAt_len]; omega
      obtain ⟨q, hq⟩ : ∃ q, (undAt l m)[l.length - 1 - m]? = some q := ⟨_, List.getElem?_eq_getElem hlt⟩
      rw [List.getD_eq_getElem?_getD, List.getD_eq_getElem?_getD, List.getElem?_map, hq]
      cases q
      · simp [List.map_set]
      · simp
theorem lawL_und {l : List Wk} (hN : Names l) : lawL l (-1) = (undL l).map (!·) := lawAt_und hN _ (Nat.le_refl _)
end Go.Proofs.Ytjbpdimepckmfaa

namespace Go.Proofs.Ytjbpdimepckmfaa
open Go.RowKit Go.Kq

theorem tgtI_find {l : List Wk} (hN : Names l) {j : Nat} {v : Wk} (hv : l[j]? = some v) (h4 : v.kd = 4) : findI (l.take j) v.onm = tgtI l j := by
  unfold findI tgtI tgt
  rw [hv, findN_take hN]
  simp only
  rw [if_pos h4]
  rfl
theorem tgt_not {l : List Wk} {j : Nat} {v : Wk} (hv : l[j]? = some v) (h4 : v.kd ≠ 4) : tgt l j = none := by
  unfold tgt
  rw [hv]
  simp only
  rw [if_neg h4]
set_option maxHeartbeats 1000000 in
set_option maxRecDepth 100000 in
theorem rundone_any (A : Option Addr) (n ca : Nat) (l : List Wk) (w : World) (hx : RdW w A n l) (hn : n ≤ 1000) (hca : n ≤ ca) (hN : Names l) :
    Calls Try.prog 59 #[.slice A n ca] w fun e w' => ∃ G, e = .returned (.slice (some ⟨G, 0, none⟩) n n) ∧ w'.ownsRow w.heap.size 4 1 (.slice (some ⟨G, 0, none⟩) n n) n ((undL l).map Value.bool) ∧ Kp No w w' := by
  have HL := Lib.hid hx.1
  have hmk := fun w => make_bools n (by omega) w
  have HN := Lib.hid hN
  have HX := Lib.hid hx
  clear hN hx
  go_enter Try.func59, Try.ntmps59
  go_wp2_with fail
  obtain ⟨W1, hW1⟩ : ∃ W1, W1 = w.alloc (.cells (List.replicate n (Value.bool false)).toArray 4) := ⟨_, rfl⟩
  have hown : W1.ownsRow w.heap.size 4 1 (.slice (some ⟨w.heap.size, 0, none⟩) n n) n (List.replicate n (Value.bool false)) := by
    rw [hW1]
    exact own_made w (by simp) (Nat.le_refl _) (by unfold maxLen; omega)
  have hk1 : Kp No w W1 := by rw [hW1]; exact Kp.alloc _ _ _
  simp only [List.toArray_replicate] at hW1
  rw [← hW1]
  have HO := Lib.hid hown
  clear hW1 hown hmk
  go_loopw [4] (fun vi wr => ∃ (m : Nat) (x : Int), m ≤ n ∧ vi = .int .i64 x ∧ x = (n : Int) - 1 - m ∧ wr.ownsRow w.heap.size 4 1 (.slice (some ⟨w.heap.size, 0, none⟩) n n) n ((undAt l m).map Value.bool) ∧ Kp No w wr) (fun vi _ => (intOf vi + 1).toNat)
  case atStart => exact ⟨0, _, by omega, rfl, by omega, by have h := HO.out; unfold undAt; rw [List.map_replicate, HL.out]; exact h, hk1⟩
  case round =>
    obtain ⟨m, x, hm, rfl, hx0, how, hkp⟩ := hrel
    have HOW := Lib.hid how
    clear how
    by_cases hlt : m < n
    · obtain ⟨i, hi⟩ : ∃ i, i = n - 1 - m := ⟨_, rfl⟩
      obtain rfl : x = (i : Int) := by omega
      have hin : i < n := by omega
      have HST := Lib.hid (show undAt l (m + 1) = undS l i (undAt l m) by rw [undAt, HL.out, hi])
      obtain ⟨q, hq⟩ : ∃ q, (undAt l m)[i]? = some q := ⟨_, List.getElem?_eq_getElem (by rw [undAt_len, HL.out]; omega)⟩
      obtain ⟨v, hv⟩ : ∃ v, l[i]? = some v := ⟨_, List.getElem?_eq_getElem (by rw [HL.out]; omega)⟩
      obtain ⟨b, o, rfl, _, hat⟩ := RdW.at_ (HX.out.no hkp) hv
      have hq1 : wr.cell? ⟨w.heap.size, i, none⟩ = some (.bool q) := own_cell HOW.out (by rw [List.getElem?_map, hq]; rfl)
      have HQ := Lib.hid hq
      have HV := Lib.hid hv
      have hcast : (i : Int) < (n : Int) := by omega
      have HX0 := Lib.hid hx0
      have HI := Lib.hid hi
      obtain ⟨c0, c1, c2, c3, _, _, _, _, c8, c9, _⟩ := hat
      clear hq hx0 hi hv
      by_cases h4 : v.kd = 4
      · have q4 : (v.kd == 4) = true := by rw [beq_iff_eq]; exact h4
        have HTI := Lib.hid (tgtI_find HN.out HV.out h4)
        clear h4
        cases q with
        | true =>
          have HS2 := Lib.hid (show undAt l (m + 1) = undAt l m by
            rw [HST.out]
            unfold undS
            split
            · rw [if_pos (by rw [List.getD_eq_getElem?_getD, HQ.out]; rfl)]
            · rfl)
          go_wp2_with fail
          go_roundw
          case rel => exact ⟨m + 1, _, by omega, rfl, by have := HX0.out; omega, by rw [HS2.out]; exact HOW.out, hkp⟩
          case measure => simp [intOf]
        | false =>
          have HFD := Lib.hid (fun w' (k : Kp No wr w') => rfind_any (some ⟨b, o, none⟩) i ca (l.take i) v.ow v.on w' (RdW.take (HX.out.no (hkp.tr k)) (by omega)) (by omega))
          have KD := Lib.hid (fun k : Nat => Kp.drewN No wr k)
          have hic : i ≤ ca := by omega
          rw [show findI (l.take i) (v.ow, v.on) = tgtI l i from HTI.out] at HFD
          obtain ⟨ti, hti⟩ : ∃ ti, ti = tgtI l i := ⟨_, rfl⟩
          rw [← hti] at HFD
          have HT := Lib.hid hti
          clear hti
          go_wp2_with fail
          go_quiet (first | (go_at_call 57; with_reducible exact Calls.quiet_of_same (HFD.out _ (KD.out _))))
          have HO3 := Lib.hid ((Kp.drewN No wr nq).owns HOW.out fun _ _ h => h)
          have hk3 := hkp.tr (Kp.drewN No wr nq)
          clear c0 c1 c2 c3 c8 c9 hq1 HFD KD
          generalize wr.drewN nq = w3 at HO3 hk3 ⊢
          cases ht : tgt l i with
          | none =>
            obtain rfl : ti = -1 := by rw [HT.out]; unfold tgtI; rw [ht]
            have HS2 := Lib.hid (show undAt l (m + 1) = undAt l m by rw [HST.out]; unfold undS; rw [ht])
            clear ht
            go_wp2_with fail
            go_roundw
            case rel => exact ⟨m + 1, _, by omega, rfl, by have := HX0.out; omega, by rw [HS2.out]; exact HO3.out, hk3⟩
            case measure => simp [intOf]
          | some k =>
            obtain rfl : ti = k := by rw [HT.out]; unfold tgtI; rw [ht]
            have hki := tgt_lt ht
            have hkd : decide ((0 : Int) ≤ (k : Int)) = true := by rw [decide_eq_true_eq]; omega
            have HS2 := Lib.hid (show undAt l (m + 1) = (undAt l m).set k true by rw [HST.out]; unfold undS; rw [ht]; simp only; rw [if_neg (by rw [List.getD_eq_getElem?_getD, HQ.out]; simp)])
            obtain ⟨z, hz⟩ : ∃ z, (undAt l m)[k]? = some z := ⟨_, List.getElem?_eq_getElem (by rw [undAt_len, HL.out]; omega)⟩
            have c3' : w3.cell? ⟨w.heap.size, k, none⟩ = some (.bool z) := own_cell HO3.out (by rw [List.getElem?_map, hz]; rfl)
            have f3 := own_free HO3.out k
            have hkn : (k : Int) < (n : Int) := by omega
            clear hz ht
            go_wp2_with fail
            go_roundw
            case rel =>
              refine ⟨m + 1, _, by omega, rfl, by have := HX0.out; omega, ?_, hk3.trans (kp_setOne _ _ _ _) fun g hg e => by have e : g = w.heap.size := e; omega⟩
              have h := own_set HO3.out k (.bool true)
              rw [HS2.out, List.map_set]
              exact h
            case measure => simp [intOf]
      · have q4 : (v.kd == 4) = false := by rw [beq_eq_false_iff_ne]; exact h4
        have HS2 := Lib.hid (show undAt l (m + 1) = undAt l m by rw [HST.out]; unfold undS; rw [tgt_not HV.out h4])
        clear h4
        go_wp2_with fail
        go_roundw
        case rel => exact ⟨m + 1, _, by omega, rfl, by have := HX0.out; omega, by rw [HS2.out]; exact HOW.out, hkp⟩
        case measure => simp [intOf]
    · obtain rfl : m = n := by omega
      have hx1 : x = -1 := by omega
      subst hx1
      clear hx0
      go_wp2_with fail
      go_ret
      exact ⟨_, rfl, by unfold undL; rw [HL.out]; exact HOW.out, hkp⟩
/-- What Undone hands back. -/
def undV (l : List Wk) : List Bool := if chkL l = 0 then undL l else []
theorem undV_ok {l : List Wk} (h : chkL l = 0) : undV l = undL l := if_pos h
theorem undV_no {l : List Wk} (h : chkL l ≠ 0) : undV l = [] := if_neg h
theorem undL_len (l : List Wk) : (undL l).length = l.length := undAt_len _ _
set_option maxHeartbeats 1000000 in
theorem Undone_any (A : Option Addr) (n ca : Nat) (l : List Wk) (w : World) (hx : RdW w A n l) (hf : Fits l) :
    Calls Try.prog 22 #[.slice A n ca] w fun e w' => ∃ v, e = .returned (.tuple #[v, .int .i64 (chkL l)]) ∧ w'.ownsRow w.heap.size 4 1 v (undV l).length ((undV l).map Value.bool) ∧ Kp No w w' := by
  have hc := Check_any A n ca l w hx hf
  have HX := Lib.hid hx
  clear hx hf
  by_cases h1 : chkL l = 0
  · have R := rec_of h1
    have hn : n ≤ 400 := by rw [← HX.out.1]; exact R.len
    have HN := Lib.hid R.names
    have HV := Lib.hid (undV_ok h1)
    rw [h1] at hc ⊢
    clear R h1
    go_enter Try.func22, Try.ntmps22
    go_wp2_with fail
    with_reducible refine hc.mono ?_
    rintro e w1 ⟨rfl, hk1⟩
    go_wp2_with fail
    with_reducible refine (undone_any A n ca l w1 (HX.out.no hk1) (by omega) HN.out).mono ?_
    rintro e w2 ⟨G, rfl, ho, hk2⟩
    go_wp2_with fail
    refine bodyPost_ret (v := .tuple #[.slice (some ⟨G, 0, none⟩) n n, .int .i64 0]) (by simp [results, Try.results22, go_sem]) rfl ⟨_, rfl, ?_, hk1.tr hk2⟩
    rw [HV.out, undL_len, HX.out.1]
    exact own_mono ho hk1.size
  · have q1 : (chkL l != 0) = true := by rw [bne_iff_ne]; exact h1
    have HV := Lib.hid (undV_no h1)
    generalize chkL l = x at hc q1 ⊢
    clear h1
    go_enter Try.func22, Try.ntmps22
    go_wp2_with fail
    with_reducible refine hc.mono ?_
    rintro e w1 ⟨rfl, hk1⟩
    go_wp2_with fail
    refine bodyPost_ret (v := .tuple #[.slice none 0 0, .int .i64 x]) (by simp [results, Try.results22, go_sem]) rfl ⟨.slice none 0 0, rfl, by rw [HV.out]; exact ⟨rfl, .inl ⟨rfl, rfl⟩⟩, hk1⟩
set_option maxHeartbeats 1000000 in
theorem rUndone_any (A : Option Addr) (n ca : Nat) (l : List Wk) (w : World) (hx : RdW w A n l) (hf : Fits l) (hca : n ≤ ca) :
    Calls Try.prog 23 #[.slice A n ca] w fun e w' => ∃ v, e = .returned (.tuple #[v, .int .i64 (chkL l)]) ∧ w'.ownsRow w.heap.size 4 1 v (undV l).length ((undV l).map Value.bool) ∧ Kp No w w' := by
  have hc := rCheck_any A n ca l w hx hf hca
  have HX := Lib.hid hx
  clear hx hf
  by_cases h1 : chkL l = 0
  · have R := rec_of h1
    have hn : n ≤ 400 := by rw [← HX.out.1]; exact R.len
    have HN := Lib.hid R.names
    have HV := Lib.hid (undV_ok h1)
    rw [h1] at hc ⊢
    clear R h1
    go_enter Try.func23, Try.ntmps23
    go_wp2_with fail
    with_reducible refine hc.mono ?_
    rintro e w1 ⟨rfl, hk1⟩
    go_wp2_with fail
    with_reducible refine (rundone_any A n ca l w1 (HX.out.no hk1) (by omega) hca HN.out).mono ?_
    rintro e w2 ⟨G, rfl, ho, hk2⟩
    go_wp2_with fail
    refine bodyPost_ret (v := .tuple #[.slice (some ⟨G, 0, none⟩) n n, .int .i64 0]) (by simp [results, Try.results23, go_sem]) rfl ⟨_, rfl, ?_, hk1.tr hk2⟩
    rw [HV.out, undL_len, HX.out.1]
    exact own_mono ho hk1.size
  · have q1 : (chkL l != 0) = true := by rw [bne_iff_ne]; exact h1
    have HV := Lib.hid (undV_no h1)
    generalize chkL l = x at hc q1 ⊢
    clear h1
    go_enter Try.func23, Try.ntmps23
    go_wp2_with fail
    with_reducible refine hc.mono ?_
    rintro e w1 ⟨rfl, hk1⟩
    go_wp2_with fail
    refine bodyPost_ret (v := .tuple #[.slice none 0 0, .int .i64 x]) (by simp [results, Try.results23, go_sem]) rfl ⟨.slice none 0 0, rfl, by rw [HV.out]; exact ⟨rfl, .inl ⟨rfl, rfl⟩⟩, hk1⟩
end Go.Proofs.Ytjbpdimepckmfaa
