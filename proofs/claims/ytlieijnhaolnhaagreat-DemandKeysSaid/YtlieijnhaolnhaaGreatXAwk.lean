/- Chapter 13: the statements' own small functions, the values of the examples, awake. -/
import Derived.Test.YtlieijnhaolnhaaGreatXCf
import Derived.Test.YtlieijnhaolnhaaGreatXLpaPM
import Derived.Test.YtlieijnhaolnhaaGreatXDrp
import Derived.Test.YtlieijnhaolnhaaGreatXPkw
namespace Go.Proofs.YtlieijnhaolnhaaGreat
open Go.RowKit Go.Kq

set_option maxHeartbeats 1000000 in
theorem sameI_any (A B : Option Addr) (n m ca cb : Nat) (xs ys : List Int) (w : World) (hx : RdI .i64 w A n xs) (hy : RdI .i64 w B m ys) (hn : n ≤ 100000000) :
    Calls Tryz.prog 21 #[.slice A n ca, .slice B m cb] w fun e w' => e = .returned (.bool (decide (xs = ys))) ∧ Kp No w w' := by
  have hxl := hx.1
  have hyl := hy.1
  by_cases hl : n = m
  · subst hl
    go_enter Tryz.func21, Tryz.ntmps21
    go_wp2_with fail
    go_loopw [5] (fun i wr => ∃ k : Nat, k ≤ n ∧ i = .int .i64 k ∧ xs.take k = ys.take k ∧ Kp No w wr) (fun i _ => n - (intOf i).toNat)
    case atStart => exact ⟨0, by omega, rfl, by simp, Kp.refl _ _⟩
    case round =>
      obtain ⟨k, hk, rfl, hno, hkp⟩ := hrel
      by_cases hlt : k < n
      · obtain ⟨x, hxk⟩ : ∃ x, xs[k]? = some x := ⟨_, List.getElem?_eq_getElem (by omega)⟩
        obtain ⟨y, hyk⟩ : ∃ y, ys[k]? = some y := ⟨_, List.getElem?_eq_getElem (by omega)⟩
        obtain ⟨b, o, rfl, _, c0⟩ := (hx.no hkp).2 k x hxk
        obtain ⟨b', o', rfl, _, c1⟩ := (hy.no hkp).2 k y hyk
        have Ht := Lib.hid hno
        have X := Lib.hid hxk
        have Y := Lib.hid hyk
        clear hno hxk hyk
        by_cases hxy : x = y
        · subst hxy
          go_wp2_with fail
          go_quiet (fail)
          go_wp2_with fail
          go_roundw
          case rel => exact ⟨k + 1, by omega, by go_num, by rw [List.take_add_one, List.take_add_one, Ht.out, X.out, Y.out], hkp.tr (Kp.drewN _ _ _)⟩
          case measure => simp [intOf]; omega
        · have hb : (x == y) = false := by rw [beq_eq_false_iff_ne]; exact hxy
          have hne : xs ≠ ys := fun h => hxy (by have := X.out; rw [h, Y.out] at this; cases this; rfl)
          have HN := Lib.hid hne
          clear hxy hne
          go_wp2_with fail
          go_quiet (fail)
          go_wp2_with fail
          go_ret
          exact ⟨ret_bool (by simp [HN.out]), hkp.tr (Kp.drewN _ _ _)⟩
      · have he : xs = ys := by
          rw [List.take_of_length_le (by omega), List.take_of_length_le (by omega)] at hno
          exact hno
        have HE := Lib.hid he
        clear he hno
        go_wp2
        go_ret
        exact ⟨ret_bool (by simp [HE.out]), hkp⟩
  · have hne : xs ≠ ys := fun h => hl (by rw [← hxl, ← hyl, h])
    have hb : ((n : Int) == (m : Int)) = false := by rw [beq_eq_false_iff_ne]; omega
    have HN := Lib.hid hne
    clear hne
    go_enter Tryz.func21, Tryz.ntmps21
    go_wp2
    go_ret
    exact ⟨ret_bool (by simp [HN.out]), Kp.refl _ _⟩
/-! ### intervals -/
def eqP (x y : Int × Int) : Bool := decide (x.1 = y.1) && decide (x.2 = y.2)
theorem eqP_iff (x y : Int × Int) : eqP x y = true ↔ x = y := by
  obtain ⟨a, b⟩ := x
  obtain ⟨c, d⟩ := y
  simp [eqP]
set_option maxRecDepth 100000 in
theorem iv_neq (x y : Int × Int) (w : World) : Sem.run Tryz.prog (binOp .neq 25 (.agg #[.int .i64 x.1, .int .i64 x.2]) (.agg #[.int .i64 y.1, .int .i64 y.2])) w = .ok (.bool (!eqP x y)) w := by
  have hS : Tryz.prog.underlying 25 = some (.struct (Tryz.prog.fieldsOf 25)) := by kernel_rfl
  have hp : Tryz.prog.stoodInHeld 25 = false := by kernel_rfl
  have u3 := Tryz.underlying2
  rw [run_neq_struct, show (10000 : Nat) = 9999 + 1 from rfl, run_equalIn_agg w 9999 25 _ _ hS hp]
  simp only [Program.fieldsOf, Tryz.underlying25, eqP]
  go_simp
  by_cases h1 : x.1 = y.1 <;> by_cases h2 : x.2 = y.2 <;> simp [h1, h2]
set_option maxRecDepth 100000 in
theorem iv_eql (x y : Int × Int) (w : World) : Sem.run Tryz.prog (binOp .eql 25 (.agg #[.int .i64 x.1, .int .i64 x.2]) (.agg #[.int .i64 y.1, .int .i64 y.2])) w = .ok (.bool (eqP x y)) w := by
  have hS : Tryz.prog.underlying 25 = some (.struct (Tryz.prog.fieldsOf 25)) := by kernel_rfl
  have hp : Tryz.prog.stoodInHeld 25 = false := by kernel_rfl
  have u3 := Tryz.underlying2
  rw [run_eql_struct, show (10000 : Nat) = 9999 + 1 from rfl, run_equalIn_agg w 9999 25 _ _ hS hp]
  simp only [Program.fieldsOf, Tryz.underlying25, eqP]
  go_simp
  by_cases h1 : x.1 = y.1 <;> by_cases h2 : x.2 = y.2 <;> simp [h1, h2]
theorem iv_guard (op : BinOp) (a b : Operand) (xs ys : Array Value) (w : World) : Sem.run Tryz.prog (eqGuard op 25 a b (.agg xs) (.agg ys)) w = .ok () w := run_eqGuard_agg w op 25 a b xs ys (by kernel_rfl)
set_option maxHeartbeats 1000000 in
theorem same_any (A B : Option Addr) (n m ca cb : Nat) (xs ys : List (Int × Int)) (w : World) (hx : Rd ivC 2 w A n xs) (hy : Rd ivC 2 w B m ys) (hn : n ≤ 100000000) :
    Calls Tryz.prog 18 #[.slice A n ca, .slice B m cb] w fun e w' => e = .returned (.bool (decide (xs = ys))) ∧ Kp No w w' := by
  have hxl := hx.1
  have hyl := hy.1
  by_cases hl : n = m
  · subst hl
    generalize hE : decide (xs = ys) = E
    have HE := Lib.hid hE
    clear hE
    go_enter Tryz.func18, Tryz.ntmps18
    go_wp2_with fail
    go_loopw [5] (fun i wr => ∃ k : Nat, k ≤ n ∧ i = .int .i64 k ∧ xs.take k = ys.take k ∧ Kp No w wr) (fun i _ => n - (intOf i).toNat)
    case atStart => exact ⟨0, by omega, rfl, by simp, Kp.refl _ _⟩
    case round =>
      obtain ⟨k, hk, rfl, hno, hkp⟩ := hrel
      by_cases hlt : k < n
      · obtain ⟨x, hxk⟩ : ∃ x, xs[k]? = some x := ⟨_, List.getElem?_eq_getElem (by omega)⟩
        obtain ⟨y, hyk⟩ : ∃ y, ys[k]? = some y := ⟨_, List.getElem?_eq_getElem (by omega)⟩
        obtain ⟨b, o, rfl, _, hc⟩ := (hx.no hkp).2 k x hxk
        obtain ⟨b', o', rfl, _, hd⟩ := (hy.no hkp).2 k y hyk
        have c0 := hc 0 _ rfl
        have c1 := hc 1 _ rfl
        have d0 := hd 0 _ rfl
        have d1 := hd 1 _ rfl
        simp only [Nat.add_zero] at c0 d0
        have Ht := Lib.hid hno
        have X := Lib.hid hxk
        have Y := Lib.hid hyk
        clear hno hxk hyk hc hd
        have hg := iv_guard
        have hn := iv_neq x y
        generalize hb : eqP x y = bb at hn
        have HB := Lib.hid hb
        clear hb
        cases bb
        · have hne : xs ≠ ys := fun h => by
            have h1 := X.out
            rw [h, Y.out] at h1
            cases h1
            have := (eqP_iff x x).2 rfl
            rw [HB.out] at this
            cases this
          obtain rfl : E = false := by rw [← HE.out]; exact decide_eq_false hne
          clear hne
          simp only [Bool.not_false] at hn
          go_wp2_with fail
          go_quiet (fail)
          go_wp2_with fail
          go_ret
          exact ⟨rfl, hkp.tr (Kp.drewN _ _ _)⟩
        · obtain rfl := (eqP_iff x y).1 HB.out
          simp only [Bool.not_true] at hn
          go_wp2_with fail
          go_quiet (fail)
          go_wp2_with fail
          go_roundw
          case rel => exact ⟨k + 1, by omega, by go_num, by rw [List.take_add_one, List.take_add_one, Ht.out, X.out, Y.out], hkp.tr (Kp.drewN _ _ _)⟩
          case measure => simp [intOf]; omega
      · have he : xs = ys := by
          rw [List.take_of_length_le (by omega), List.take_of_length_le (by omega)] at hno
          exact hno
        obtain rfl : E = true := by rw [← HE.out]; exact decide_eq_true he
        clear he hno
        go_wp2
        go_ret
        exact ⟨rfl, hkp⟩
  · have hne : xs ≠ ys := fun h => hl (by rw [← hxl, ← hyl, h])
    have hb : ((n : Int) == (m : Int)) = false := by rw [beq_eq_false_iff_ne]; omega
    rw [decide_eq_false hne]
    clear hne
    go_enter Tryz.func18, Tryz.ntmps18
    go_wp2
    go_ret
    exact ⟨rfl, Kp.refl _ _⟩
/-! ### the values of the examples -/
theorem vlo600 : vlo 600 = 31622776 := by
  have h : rnd false ((600 : Int) * 5000000000000) 3 = 1000000000000000 := by decide
  have e : isq 1000000000000000 = 31622776 := (isq_unique (by decide) (by decide)).symm
  unfold vlo
  rw [h, show ((1000000000000000 : Int)).toNat = 1000000000000000 from rfl, e]
  rfl
theorem vhi600 : vhi 600 = 31622777 := by
  have h : rnd true ((600 : Int) * 5000000000000) 3 = 1000000000000000 := by decide
  have e : isq 1000000000000000 = 31622776 := (isq_unique (by decide) (by decide)).symm
  unfold vhi csq
  rw [h, show ((1000000000000000 : Int)).toNat = 1000000000000000 from rfl, e]
  decide
theorem tlo_ex : tlo 6000 700 600 = 625879 := by
  unfold tlo
  rw [vlo600]
  decide
theorem thi_ex : thi 6000 700 600 = 625880 := by
  unfold thi
  rw [vhi600]
  decide
theorem pip_ex : pipE 6000 700 600 = (625879, 625880, 0) := by
  unfold pipE
  rw [if_pos (by decide), tlo_ex, thi_ex]
theorem drp_ex : drpE 6000 700 600 600 = (0, 1, 0) := by
  unfold drpE
  rw [if_pos (by decide), if_neg (by decide), tlo_ex, thi_ex]
  decide
def exR : List Rw := [⟨0, 60, 6000, 700, 0⟩, ⟨0, 61, 6000, 700, 1⟩]
def exQ : List Pp := [(0, 60), (0, 61)]
theorem sum_ex : sumE exR [600, 600] exQ = 0 := by decide
theorem sumv_ex : sumV exR [600, 600] exQ = [(625879, 625880), (625879, 625880)] := by
  unfold sumV
  rw [if_pos sum_ex]
  simp [addL, addS, rowOf, exR, exQ, Rw.pp, tlo_ex, thi_ex, List.find?]
def exK : List (Int × Int) := [(5, 9), (7, 8), (0, 9)]
theorem top_ex {L : List Nat} (h : Top exK 2 L) : L = [0, 2] := by
  refine asc_ext h.asc (by decide) fun x => ?_
  rw [h.mem]
  match x with
  | 0 => decide
  | 1 => decide
  | 2 => decide
  | n + 3 => exact ⟨fun h => by have := h.1; simp [exK] at this; omega, fun h => by simp at h⟩
theorem pk_ex : pkV exK [0, 2] = (5, 18, 0) := by decide
theorem bad_ex : pkBad exK (2 : Nat) = false := by decide
/-! ### awake -/
theorem rd_lit {α : Type} {f : α → List Value} {s : Nat} (hf : ∀ x, (f x).length = s) {w : World} {g : Nat} {t : TypeId} {vs : List α} (h : w.heap[g]? = some (.cells (vs.flatMap f).toArray t (0, 0))) : Rd f s w (some ⟨g, 0, none⟩) vs.length vs :=
  ⟨rfl, fun i v hv => ⟨g, 0, rfl, (Array.getElem?_eq_some_iff.1 h).1, fun j u hj => by
    rw [cell_of_row _ _ _ _ _ _ h, Nat.zero_add]
    have := flat_at hf vs i v j u hv hj
    simpa using this⟩⟩
theorem rdi_lit {k : IntKind} {w : World} {g : Nat} {t : TypeId} {vs : List Int} (h : w.heap[g]? = some (.cells (vs.map (Value.int k)).toArray t (0, 0))) : RdI k w (some ⟨g, 0, none⟩) vs.length vs :=
  ⟨rfl, fun i v hv => ⟨g, 0, rfl, (Array.getElem?_eq_some_iff.1 h).1, by
    rw [cell_of_row _ _ _ _ _ _ h, Nat.zero_add]
    simp [hv]⟩⟩
theorem rwC_len (x : Rw) : (rwC x).length = 5 := rfl
theorem two_new {w : World} {a b : Value} {t : TypeId} {w' : World} (k : Kp No (w.alloc (.cells #[a, b] t)) w') : w'.heap[w.heap.size]? = some (.cells #[a, b] t (0, 0)) := k.heap (at_new rfl) id
set_option maxHeartbeats 8000000 in
set_option maxRecDepth 100000 in
theorem awake_any (w : World) : Calls Tryz.prog 12 #[] w fun e w' => e = .returned (.bool true) ∧ Kp No w w' := by
  have PI := fun w0 => Pipe_any 6000 700 600 w0
  have DR := fun w0 => Drop_any 6000 700 600 600 w0
  rw [pip_ex] at PI
  rw [drp_ex] at DR
  simp only [toeV, ieV, ivV] at PI DR
  have PI := Lib.hid PI
  have DR := Lib.hid DR
  go_enter Tryz.func12, Tryz.ntmps12
  go_wp2_with fail
  refine (PI.out _).mono ?_
  rintro e w1 ⟨rfl, k1⟩
  have T1 := two_new k1
  have K1 := Lib.hid ((Kp.alloc No w _).tr k1)
  obtain ⟨c0, c1, _, _⟩ := two_cells T1
  have z1 : w.heap.size < w1.heap.size := (Array.getElem?_eq_some_iff.1 T1).1
  have T1 := Lib.hid T1
  clear k1
  go_wp2_with fail
  refine (DR.out _).mono ?_
  rintro e w2 ⟨rfl, k2⟩
  have T1 := Lib.hid (k2.heap ((Kp.alloc No _ _).heap T1.out id) id)
  have T2 := Lib.hid (two_new k2)
  have K2 := Lib.hid (K1.out.tr ((Kp.alloc No w1 _).tr k2))
  obtain ⟨c0, c1, _, _⟩ := two_cells T1.out
  have z2 : w.heap.size < w2.heap.size := (Array.getElem?_eq_some_iff.1 T1.out).1
  clear k2 K1
  go_wp2_with fail
  obtain ⟨W, hW⟩ : ∃ W, (((w2.alloc (.cells #[.int .i64 0, .int .i64 1] 25)).alloc (.cells #[.int .i64 0, .int .i64 60, .int .i64 6000, .int .i64 700, .int .i64 0, .int .i64 0, .int .i64 61, .int .i64 6000, .int .i64 700, .int .i64 1] 53)).alloc (.cells #[.int .i64 600, .int .i64 600] 2)).alloc (.cells #[.int .i64 0, .int .i64 60, .int .i64 0, .int .i64 61] 51) = W := ⟨_, rfl⟩
  have B1 : W.heap[w2.heap.size]? = some (.cells #[.int .i64 0, .int .i64 1] 25 (0, 0)) := by rw [← hW]; exact (Kp.alloc No _ _).heap ((Kp.alloc No _ _).heap ((Kp.alloc No _ _).heap (at_new rfl) id) id) id
  have B2 : W.heap[w2.heap.size + 1]? = some (.cells (exR.flatMap rwC).toArray 53 (0, 0)) := by rw [← hW]; exact (Kp.alloc No _ _).heap ((Kp.alloc No _ _).heap (at_new (by simp)) id) id
  have B3 : W.heap[w2.heap.size + 1 + 1]? = some (.cells (([600, 600] : List Int).map (Value.int .i64)).toArray 2 (0, 0)) := by rw [← hW]; exact (Kp.alloc No _ _).heap (at_new (by simp)) id
  have B4 : W.heap[w2.heap.size + 1 + 1 + 1]? = some (.cells (exQ.flatMap pcells).toArray 51 (0, 0)) := by rw [← hW]; exact at_new (by simp)
  have KW : Kp No w2 W := by rw [← hW]; exact ((Kp.alloc No _ _).tr (Kp.alloc No _ _)).tr ((Kp.alloc No _ _).tr (Kp.alloc No _ _))
  rw [hW]
  clear hW
  have SM := Sum_any (some ⟨w2.heap.size + 1, 0, none⟩) (some ⟨w2.heap.size + 1 + 1, 0, none⟩) (some ⟨w2.heap.size + 1 + 1 + 1, 0, none⟩) 2 2 2 2 2 2 exR [600, 600] exQ W (rd_lit rwC_len (vs := exR) B2) (rdi_lit (vs := [600, 600]) B3) (rd_lit pcells_len (vs := exQ) B4) (by omega)
  have T1 := Lib.hid (KW.heap T1.out id)
  have T2 := Lib.hid (KW.heap T2.out id)
  have T3 := Lib.hid B1
  have K3 := Lib.hid (K2.out.tr KW)
  clear B1 B2 B3 B4 KW K2 c0 c1
  refine SM.mono ?_
  clear SM
  intro e w4 hS
  unfold SumP at hS
  rw [sum_ex, sumv_ex] at hS
  obtain ⟨v4, rfl, ho4, k4⟩ := hS
  obtain ⟨a4, c4, rfl, _, _, _⟩ := own_form ho4
  have R4 := Lib.hid (Rd.of_own ivC_len (by omega) ho4)
  have T2 := Lib.hid (k4.heap T2.out id)
  have T3 := Lib.hid (k4.heap T3.out id)
  have K4 := Lib.hid (K3.out.tr k4)
  clear ho4 k4 T1
  go_wp2_with fail
  have PK := peak_ok (some ⟨w4.heap.size, 0, none⟩) 3 3 2 exK (w4.alloc (.cells #[.int .i64 5, .int .i64 9, .int .i64 7, .int .i64 8, .int .i64 0, .int .i64 9] 25)) (rd_lit ivC_len (vs := exK) (at_new rfl)) (by omega) bad_ex
  have h22 : ((2 : Nat) : Int) = 2 := rfl
  rw [h22] at PK
  refine PK.mono ?_
  clear PK h22
  intro e w5 hP
  unfold PeakP at hP
  obtain ⟨L, v5, hT, rfl, k5, ho5, _⟩ := hP
  have hL := top_ex hT
  subst hL
  rw [pk_ex] at ho5 ⊢
  have ho5 := ho5 rfl
  obtain ⟨a5, c5, rfl, _, _, _⟩ := own_form ho5
  have I5 := Lib.hid (RdI.of_own (xs := [0, 2]) ho5)
  have T2 := Lib.hid (k5.heap ((Kp.alloc No _ _).heap T2.out id) id)
  have T3 := Lib.hid (k5.heap ((Kp.alloc No _ _).heap T3.out id) id)
  have R5 := Lib.hid (R4.out.no ((Kp.alloc No _ _).tr k5))
  have K5 := Lib.hid (K4.out.tr ((Kp.alloc No _ _).tr k5))
  clear hT ho5 k5 R4 K4 K3 PI DR
  obtain ⟨c0, c1, _, _⟩ := two_cells T2.out
  obtain ⟨d0, d1, _, _⟩ := two_cells T3.out
  have z1 : w1.heap.size < w5.heap.size := (Array.getElem?_eq_some_iff.1 T2.out).1
  have z2 : w2.heap.size < w5.heap.size := (Array.getElem?_eq_some_iff.1 T3.out).1
  have hg := iv_guard
  have q1 := iv_eql (625879, 625880) (625879, 625880)
  have q2 := iv_eql (0, 1) (0, 1)
  have q3 := iv_eql (5, 18) (5, 18)
  rw [show eqP (625879, 625880) (625879, 625880) = true from rfl] at q1
  rw [show eqP (0, 1) (0, 1) = true from rfl] at q2
  rw [show eqP (5, 18) (5, 18) = true from rfl] at q3
  simp only at q1 q2 q3
  simp only [ivV]
  go_wp2_with fail
  have KA : Kp No w5 (((w5.alloc (.cells #[.int .i64 5, .int .i64 18] 25)).alloc (.cells #[.int .i64 625879, .int .i64 625880] 25)).alloc (.cells #[.int .i64 625879, .int .i64 625880, .int .i64 625879, .int .i64 625880] 25)) := (Kp.alloc No _ _).tr ((Kp.alloc No _ _).tr (Kp.alloc No _ _))
  have SA := same_any a4 (some ⟨w5.heap.size + 1 + 1, 0, none⟩) 2 2 c4 2 _ [(625879, 625880), (625879, 625880)] _ (R5.out.no KA) (rd_lit ivC_len (vs := [(625879, 625880), (625879, 625880)]) (at_new (by simp))) (by omega)
  rw [show decide (([(625879, 625880), (625879, 625880)] : List (Int × Int)) = [(625879, 625880), (625879, 625880)]) = true from rfl] at SA
  refine SA.mono ?_
  clear SA
  rintro e w6 ⟨rfl, k6⟩
  have T9 := k6.heap ((Kp.alloc No _ _).heap ((Kp.alloc No _ _).heap (at_new (n := w5.heap.size) rfl) id) id) id
  have I6 := Lib.hid ((I5.out.no KA).no k6)
  have K6 := Lib.hid (K5.out.tr (KA.tr k6))
  obtain ⟨e0, e1, _, _⟩ := two_cells T9
  clear k6 KA T9 c0 c1 d0 d1 z1 z2 T2 T3
  go_wp2_with fail
  have SB := sameI_any a5 (some ⟨w6.heap.size, 0, none⟩) 2 2 c5 2 _ [0, 2] _ (I6.out.no (Kp.alloc No _ (.cells #[.int .i64 0, .int .i64 2] 3))) (rdi_lit (vs := [0, 2]) (at_new rfl)) (by omega)
  rw [show decide (([0, 2] : List Int) = [0, 2]) = true from rfl] at SB
  refine SB.mono ?_
  clear SB
  rintro e w7 ⟨rfl, k7⟩
  go_wp2_with fail
  go_ret
  exact ⟨rfl, K6.out.tr ((Kp.alloc No _ _).tr k7)⟩
end Go.Proofs.YtlieijnhaolnhaaGreat
