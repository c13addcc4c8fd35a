/- Chapter 27: the records of the examples. · Chapter 27: target: the walk. · Chapter 27: undone: the walk. -/
import Derived.Test.YtjbpdimepckmfaaXSmlM
import Derived.Test.YtjbpdimepckmfaaXLibRegInM
import Derived.Test.YtjbpdimepckmfaaXRchAM
namespace Go.Proofs.Ytjbpdimepckmfaa
open Go.RowKit Go.Kq

def x1 : Wk := ⟨0, 1, 1, 1, 2, 60, 4, 50, 0, 0, ⟨#[]⟩⟩
def x2 : Wk := ⟨0, 2, 2, 2, 2, 60, 4, 7, 0, 0, ⟨#[]⟩⟩
def x3 : Wk := ⟨1, 1, 2, 4, 0, 0, 0, 0, 0, 1, ⟨#[]⟩⟩
set_option maxHeartbeats 1000000 in
theorem lpipe_any (w : World) : Calls Try.prog 41 #[] w fun e w' => e = .returned (.agg #[.int .i64 2, .int .i64 60]) ∧ Kp No w w' := by
  go_enter Try.func41, Try.ntmps41
  go_wp2
  have hk : Kp No w (w.alloc (.cells #[.int .i64 2, .int .i64 60] 39)) := Kp.alloc _ _ _
  have p0 : (w.alloc (.cells #[.int .i64 2, .int .i64 60] 39)).cell? ⟨w.heap.size, 0, none⟩ = some (.int .i64 2) := by go_simp
  have p1 : (w.alloc (.cells #[.int .i64 2, .int .i64 60] 39)).cell? ⟨w.heap.size, 1, none⟩ = some (.int .i64 60) := by go_simp
  generalize w.alloc (.cells #[.int .i64 2, .int .i64 60] 39) = w2 at p0 p1 hk ⊢
  exact bodyPost_ret (v := .agg #[.int .i64 2, .int .i64 60]) (by simp [results, Try.results41, go_sem, p0, p1]) rfl ⟨rfl, hk⟩
set_option maxHeartbeats 1000000 in
theorem First_any (w : World) : Calls Try.prog 39 #[] w fun e w' => ∃ v, e = .returned v ∧ w'.ownsRow w.heap.size 41 11 v 2 ([x1, x2].flatMap Wk.cells) ∧ Kp No w w' := by
  go_enter Try.func39, Try.ntmps39
  go_wp2_with fail
  refine (lpipe_any _).mono ?_
  rintro e w1 ⟨rfl, hk1⟩
  go_wp2_with fail
  refine (lpipe_any _).mono ?_
  rintro e w2 ⟨rfl, hk2⟩
  go_wp2_with fail
  go_ret
  refine ⟨_, rfl, ?_, (hk1.tr hk2).tr (Kp.alloc _ _ _)⟩
  exact own_mono (own_made (s := 11) (n := 2) (xs := [x1, x2].flatMap Wk.cells) w2 rfl (Nat.le_refl _) (by decide)) (Nat.le_trans hk1.size hk2.size)
set_option maxHeartbeats 1000000 in
theorem Second_any (w : World) : Calls Try.prog 40 #[] w fun e w' => ∃ v, e = .returned v ∧ w'.ownsRow w.heap.size 41 11 v 2 ([x1, x3].flatMap Wk.cells) ∧ Kp No w w' := by
  go_enter Try.func40, Try.ntmps40
  go_wp2_with fail
  refine (First_any _).mono ?_
  rintro e w1 ⟨v, rfl, how, hk1⟩
  obtain ⟨a, c, rfl, _, _, hA⟩ := own_form how
  obtain ⟨g, rfl⟩ := hA (by omega)
  have hr : RdW w1 (some ⟨g, 0, none⟩) 2 [x1, x2] := Rd.of_own wk_len (by omega) how
  obtain ⟨b, o, hbo, _, hat⟩ := RdW.at_ (i := 0) (v := x1) hr rfl
  cases hbo
  obtain ⟨c0, c1, c2, c3, c4, c5, c6, c7, c8, c9, c10⟩ := hat
  simp only [x1] at c0 c1 c2 c3 c4 c5 c6 c7 c8 c9 c10
  clear hr how hA
  go_wp2_with fail
  go_ret
  refine ⟨_, rfl, ?_, hk1.tr (Kp.alloc _ _ _)⟩
  exact own_mono (own_made (s := 11) (n := 2) (xs := [x1, x3].flatMap Wk.cells) w1 rfl (Nat.le_refl _) (by decide)) hk1.size
end Go.Proofs.Ytjbpdimepckmfaa

namespace Go.Proofs.Ytjbpdimepckmfaa
open Go.RowKit Go.Kq

theorem zeroInt3 (w : World) : (zeroValue 3).run Try.prog w = .ok (.int .i64 0) w := by kernel_rfl
set_option maxHeartbeats 2000000 in
set_option maxRecDepth 100000 in
theorem target_any (A : Option Addr) (n ca B : Nat) (l : List Wk) (i : Nat) (w : World) (hx : RdW w A n l) (_hn : n ≤ 1000) (hi : i < n) (hN : Names l) (hm : MapAt w B en ei (ixL l n)) :
    Calls Try.prog 71 #[.slice A n ca, .map (some B), .int .i64 i] w fun e w' => e = .returned (.int .i64 (tgtI l i)) ∧ Kp No w w' := by
  have hl := hx.1
  obtain ⟨v, hv⟩ : ∃ v, l[i]? = some v := ⟨_, List.getElem?_eq_getElem (by omega)⟩
  have hg := ixL_get l hN n (by omega) v.onm
  rw [List.take_of_length_le (by omega)] at hg
  have HG := Lib.hid hg
  have HT := Lib.hid (show tgtI l i = (match (if v.kd = 4 then (match findN l v.onm with | some k => if k < i then some k else none | none => none) else none : Option Nat) with | some k => (k : Int) | none => -1) by unfold tgtI tgt; rw [hv]; try rfl)
  obtain ⟨b, o, rfl, hb, hat⟩ := RdW.at_ hx hv
  have hof := onamed_any b (o + i * 11) v w hat
  have HAT := Lib.hid hat
  have hB := hm.lt
  clear hat hg hv hN
  go_enter Try.func71, Try.ntmps71
  go_wp2_with fail
  refine hof.mono ?_
  rintro e w1 ⟨rfl, hk1⟩
  have hm1 : MapAt w1 B en ei (ixL l n) := hm.of_block (hk1.block B hB id)
  obtain ⟨_, _, _, c3, _⟩ := HAT.out.no hk1
  have hlk : (Instr.lookup 69 (.map (some B)) (nameV v.ow v.on) true).run Try.prog w1 = .ok (.tuple #[.int .i64 ((get1 (ixL l n) v.onm).getD 0), .bool (get1 (ixL l n) v.onm).isSome]) w1 := hm1.run_lookup nameOk Try.underlying69 (zeroInt3 _) v.onm true
  rw [HG.out] at hlk
  have HAT1 := Lib.hid (HAT.out.no hk1)
  clear hof
  cases hf : findN l v.onm with
  | none =>
    rw [hf] at hlk
    have hT : tgtI l i = -1 := by rw [HT.out, hf]; simp
    have HT2 := Lib.hid hT
    simp only [Option.map_none, Option.getD_none, Option.isSome_none] at hlk
    clear hT hf
    go_wp2_with fail
    all_goals
      go_ret
      exact ⟨ret_i64 (by rw [HT2.out]), hk1⟩
  | some k =>
    rw [hf] at hlk
    simp only [Option.map_some, Option.getD_some, Option.isSome_some] at hlk
    by_cases hk4 : v.kd = 4
    · have e4 : (v.kd == 4) = true := by rw [beq_iff_eq]; exact hk4
      by_cases hki : k < i
      · have hT : tgtI l i = k := by rw [HT.out, hf, if_pos hk4]; simp only; rw [if_pos hki]
        have HT2 := Lib.hid hT
        have hlt : decide ((k : Int) < (i : Int)) = true := by rw [decide_eq_true_eq]; omega
        clear hT hf hk4
        go_wp2_with fail
        all_goals
          go_ret
          exact ⟨ret_i64 (by rw [HT2.out]), hk1⟩
      · have hT : tgtI l i = -1 := by rw [HT.out, hf, if_pos hk4]; simp only; rw [if_neg hki]
        have HT2 := Lib.hid hT
        have hlt : decide ((k : Int) < (i : Int)) = false := by rw [decide_eq_false_iff_not]; omega
        clear hT hf hk4
        go_wp2_with fail
        all_goals
          go_ret
          exact ⟨ret_i64 (by rw [HT2.out]), hk1⟩
    · have e4 : (v.kd == 4) = false := by rw [beq_eq_false_iff_ne]; exact hk4
      have hT : tgtI l i = -1 := by rw [HT.out, hf, if_neg hk4]
      have HT2 := Lib.hid hT
      clear hT hf hk4
      go_wp2_with fail
      all_goals
        go_ret
        exact ⟨ret_i64 (by rw [HT2.out]), hk1⟩
end Go.Proofs.Ytjbpdimepckmfaa

namespace Go.Proofs.Ytjbpdimepckmfaa
open Go.RowKit Go.Kq

theorem info4 : (Try.prog.info? 4).map (fun i => (i.zero, i.size, i.bytes)) = some (some (.bool false), 1, 1) := by kernel_rfl
theorem flat_ones {α : Type} (f : α → Value) : ∀ l : List α, (l.flatMap fun x => [f x]) = l.map f
  | [] => rfl
  | x :: l => by rw [List.flatMap_cons, flat_ones f l]; rfl
theorem make_bools (m : Nat) (hm : m ≤ 100000) (w : World) : (Instr.makeSlice 35 (.int .i64 (m : Nat)) (.int .i64 (m : Nat))).run Try.prog w = .ok (.slice (some ⟨w.heap.size, 0, none⟩) m m) (w.alloc (.cells (List.replicate m (Value.bool false)).toArray 4)) := by
  obtain ⟨i0, hi, hz0, hz1, hz2⟩ := info_parts info4
  have h := run_make_flat w (fun x : Value => [x]) (.bool false) 35 4 i0 _ 1 1 m Try.underlying35 hi hz0 hz1 hz2 (by decide) rfl rfl (by omega) (by omega)
  rwa [flat_ones (fun x : Value => x), List.map_id'] at h
set_option maxHeartbeats 4000000 in
set_option maxRecDepth 100000 in
theorem undone_any (A : Option Addr) (n ca : Nat) (l : List Wk) (w : World) (hx : RdW w A n l) (hn : n ≤ 1000) (hN : Names l) :
    Calls Try.prog 58 #[.slice A n ca] w fun e w' => ∃ G, e = .returned (.slice (some ⟨G, 0, none⟩) n n) ∧ w'.ownsRow w.heap.size 4 1 (.slice (some ⟨G, 0, none⟩) n n) n ((undL l).map Value.bool) ∧ Kp No w w' := by
  have hl := hx.1
  have hmk := fun w => make_bools n (by omega) w
  have HN := Lib.hid hN
  clear hN
  go_enter Try.func58, Try.ntmps58
  go_wp2_with fail
  obtain ⟨W1, hW1⟩ : ∃ W1, W1 = w.alloc (.cells (List.replicate n (Value.bool false)).toArray 4) := ⟨_, rfl⟩
  have hown : W1.ownsRow w.heap.size 4 1 (.slice (some ⟨w.heap.size, 0, none⟩) n n) n (List.replicate n (Value.bool false)) := by
    rw [hW1]
    exact own_made w (by simp) (Nat.le_refl _) (by unfold maxLen; omega)
  have hk1 : Kp No w W1 := by rw [hW1]; exact Kp.alloc _ _ _
  simp only [List.toArray_replicate] at hW1
  rw [← hW1]
  have HO := Lib.hid hown
  clear hW1 hown hmk
  refine (index_any A n ca l W1 (hx.no hk1) hn).mono ?_
  rintro e W2 ⟨B, rfl, hB, hm, hk12⟩
  have hk2 := hk1.tr hk12
  have HO2 := Lib.hid (hk12.owns HO.out fun _ _ h => h)
  have HM2 := Lib.hid hm
  have hG := (own_ge HO.out (g := w.heap.size) rfl).2
  have hBm := hm.lt
  have hne : w.heap.size ≠ B := by omega
  clear hm HO
  go_wp2_with fail
  go_loopw [5] (fun vi wr => ∃ (m : Nat) (x : Int), m ≤ n ∧ vi = .int .i64 x ∧ x = (n : Int) - 1 - m ∧ wr.ownsRow w.heap.size 4 1 (.slice (some ⟨w.heap.size, 0, none⟩) n n) n ((undAt l m).map Value.bool) ∧ Kp (fun k => k = w.heap.size) W2 wr) (fun vi _ => (intOf vi + 1).toNat)
  case atStart => exact ⟨0, _, by omega, rfl, by omega, by have h := HO2.out; unfold undAt; rw [List.map_replicate, hl]; exact h, Kp.refl _ _⟩
  case round =>
    obtain ⟨m, x, hm, rfl, hx0, how, hkp⟩ := hrel
    have HOW := Lib.hid how
    have hkw : Kp No w wr := hk2.trans hkp fun k hk e => by have e : k = w.heap.size := e; omega
    clear how
    by_cases hlt : m < n
    · obtain ⟨i, hi⟩ : ∃ i, i = n - 1 - m := ⟨_, rfl⟩
      obtain rfl : x = (i : Int) := by omega
      have hin : i < n := by omega
      have hst : undAt l (m + 1) = undS l i (undAt l m) := by rw [undAt, hl, hi]
      have HST := Lib.hid hst
      have hul := undAt_len l m
      obtain ⟨q, hq⟩ : ∃ q, (undAt l m)[i]? = some q := ⟨_, List.getElem?_eq_getElem (by omega)⟩
      have htg := target_any A n ca B l i wr (hx.no hkw) hn hin HN.out (HM2.out.of_block (hkp.block B hBm fun e => hne e.symm))
      have hq1 : wr.cell? ⟨w.heap.size, i, none⟩ = some (.bool q) := own_cell HOW.out (by rw [List.getElem?_map, hq]; rfl)
      have HQ := Lib.hid hq
      have hcast : (i : Int) < (n : Int) := by omega
      have HX0 := Lib.hid hx0
      have HI := Lib.hid hi
      clear hst hq hx0 hi hul
      go_wp2_with fail
      with_reducible refine htg.mono ?_
      rintro e w3 ⟨rfl, hk3⟩
      have HOW3 := Lib.hid (hk3.owns HOW.out fun _ _ h => h)
      have hq3 : w3.cell? ⟨w.heap.size, i, none⟩ = some (.bool q) := hk3.cell hq1 id
      have hkp3 : Kp (fun k => k = w.heap.size) W2 w3 := hkp.no hk3
      clear hq1 htg
      cases ht : tgt l i with
      | none =>
        have hti : tgtI l i = -1 := by unfold tgtI; rw [ht]
        rw [hti]
        have HS2 := Lib.hid (show undAt l (m + 1) = undAt l m by rw [HST.out]; unfold undS; rw [ht])
        clear ht hti
        go_wp2_with fail
        go_roundw
        case rel => exact ⟨m + 1, _, by omega, rfl, by have := HX0.out; omega, by rw [HS2.out]; exact HOW3.out, hkp3⟩
        case measure => simp [intOf]
      | some k =>
        have hti : tgtI l i = k := by unfold tgtI; rw [ht]
        have hki := tgt_lt ht
        rw [hti]
        have hkd : decide ((0 : Int) ≤ (k : Int)) = true := by rw [decide_eq_true_eq]; omega
        cases q with
        | true =>
          have HS2 := Lib.hid (show undAt l (m + 1) = undAt l m by rw [HST.out]; unfold undS; rw [ht]; simp only; rw [if_pos (by rw [List.getD_eq_getElem?_getD, HQ.out]; rfl)])
          clear ht hti
          go_wp2_with fail
          go_roundw
          case rel => exact ⟨m + 1, _, by omega, rfl, by have := HX0.out; omega, by rw [HS2.out]; exact HOW3.out, hkp3⟩
          case measure => simp [intOf]
        | false =>
          have HS2 := Lib.hid (show undAt l (m + 1) = (undAt l m).set k true by rw [HST.out]; unfold undS; rw [ht]; simp only; rw [if_neg (by rw [List.getD_eq_getElem?_getD, HQ.out]; simp)])
          clear ht hti
          obtain ⟨z, hz⟩ : ∃ z, (undAt l m)[k]? = some z := ⟨_, List.getElem?_eq_getElem (by rw [undAt_len]; omega)⟩
          have c3 : w3.cell? ⟨w.heap.size, k, none⟩ = some (.bool z) := own_cell HOW3.out (by rw [List.getElem?_map, hz]; rfl)
          have f3 := own_free HOW3.out k
          have hkn : (k : Int) < (n : Int) := by omega
          clear hz
          go_wp2_with fail
          go_roundw
          case rel =>
            refine ⟨m + 1, _, by omega, rfl, by have := HX0.out; omega, ?_, hkp3.tr ((kp_setOne _ _ _ _).mono fun g _ e => e)⟩
            have h := own_set HOW3.out k (.bool true)
            rw [HS2.out, List.map_set]
            exact h
          case measure => simp [intOf]
    · obtain rfl : m = n := by omega
      have hx1 : x = -1 := by omega
      subst hx1
      clear hx0
      go_wp2_with fail
      go_ret
      exact ⟨_, rfl, by unfold undL; rw [hl]; exact HOW.out, hkw⟩
end Go.Proofs.Ytjbpdimepckmfaa
