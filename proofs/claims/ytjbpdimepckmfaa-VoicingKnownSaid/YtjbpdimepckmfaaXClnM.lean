/- A look-up in a region that draws its order and writes only at its end. No program in sight. · Chapter 27: the index of a record: the walk. · Chapter 27: the walk of valid at another kind. Printed by gen_val.py. · Chapter 27: which works are valid: valid at every work, and the reference's. · Chapter 27: slices.Clone of works; cmp.Or of errors. -/
import Derived.StillTailTactics
import Derived.WalkKit
import Derived.WalkSpells
import Derived.Maps.AppendAt
import Derived.OwnWalk
import Derived.Test.YtjbpdimepckmfaaXLibStiM
import Derived.Test.YtjbpdimepckmfaaXLibMapWM
import Derived.Test.YtjbpdimepckmfaaXLibSortM
import Derived.Test.YtjbpdimepckmfaaXVaA
import Derived.Test.YtjbpdimepckmfaaXVaB
import Derived.Test.YtjbpdimepckmfaaXVaDM
import Derived.Test.YtjbpdimepckmfaaXLibAppM
import Derived.Test.YtjbpdimepckmfaaXLibRegInM
namespace Go.Kq
theorem wpStill_lookup {P : Program} {ops : Array Oper} {w : World} {Q : Act → Prop} {a : Act} {o : Oper} {rest : List Oper} (hg : o.guard = none) (m x : Operand) (t : TypeId) (ok : Bool) (hop : o.op = Op.lookup t m x ok)
    (mv xv v : Value) (hm : a.eval m = mv) (hx : a.eval x = xv) (hrun : (Instr.lookup t mv xv ok).run P w = .ok v w) (h : wpStill P ops w Q rest (a.put o.dst v)) : wpStill P ops w Q (o :: rest) a := by
  refine wpStill_step fun K hK => ?_
  have hw : Region.wanted o (yielded ops a.tmps) = true := by simp [Region.wanted, hg]
  rw [if_pos hw]
  unfold Oper.still
  simp only [execOp, hop, hm, hx, Sem.run_bind, hrun, Result.andThen]
  exact ⟨rfl, hK _ h⟩
end Go.Kq

namespace Go.Proofs.Ytjbpdimepckmfaa
open Go.RowKit Go.Kq

abbrev Nm := Int × Int
def en (k : Nm) : Value := .agg #[.int .i64 k.1, .int .i64 k.2]
def ei (x : Int) : Value := .int .i64 x
theorem en_inj {a b : Nm} (h : en a = en b) : a = b := by
  obtain ⟨a1, a2⟩ := a
  obtain ⟨b1, b2⟩ := b
  simpa [en] using h
theorem name_equal (w : World) (x y : Nm) : (Op.equal 74 (en x) (en y)).run Try.prog w = .ok (decide (x = y)) w := by
  have hS : Try.prog.underlying 74 = some (.struct (Try.prog.fieldsOf 74)) := by kernel_rfl
  have hp : Try.prog.stoodInHeld 74 = false := by kernel_rfl
  have u3 := Try.underlying3
  obtain ⟨x1, x2⟩ := x
  obtain ⟨y1, y2⟩ := y
  simp only [Op.equal, Op.maxDepth, en]
  rw [show (10000 : Nat) = 9999 + 1 from rfl, run_equalIn_agg w 9999 74 _ _ hS hp]
  simp only [Program.fieldsOf, Try.underlying74]
  go_simp
  by_cases h1 : x1 = y1 <;> by_cases h2 : x2 = y2 <;> simp [h1, h2]
theorem check_int (n : Nat) (w : World) (em : Bool) (x : Int) : (Instr.checkKey em (n + 1) 3 (.int .i64 x)).run Try.prog w = .ok () w := by
  simp [Instr.checkKey, run_underlying Try.underlying3]
theorem name_check (w : World) (em : Bool) (k : Nm) : (Instr.checkKey em 10000 74 (en k)).run Try.prog w = .ok () w := by
  obtain ⟨x1, x2⟩ := k
  have a3 := Try.isAgg3
  have z3 := Try.sizeOf3
  have c := fun x => check_int 9998 w em x
  rw [show (10000 : Nat) = 9998 + 1 + 1 from rfl]
  unfold Instr.checkKey
  simp only [en, Sem.run_bind, run_underlying Try.underlying74, Result.andThen_ok]
  go_simp
theorem nameOk : KeyOk Try.prog 74 en := aggKey_ok Try.underlying74 en_inj name_check name_equal (fun k => by simp [en, Instr.sameBits])

def Wk.nm (v : Wk) : Nm := (v.wk, v.num)
def Wk.onm (v : Wk) : Nm := (v.ow, v.on)
/-- The index of the works ahead of i. -/
def ixL (l : List Wk) (i : Nat) : List (Nm × Int) := (List.range i).foldl (fun E j => match l[j]? with | some v => ins v.nm (j : Int) E | none => E) []
theorem ixL_succ {l : List Wk} {i : Nat} {v : Wk} (hv : l[i]? = some v) : ixL l (i + 1) = ins v.nm (i : Int) (ixL l i) := by
  unfold ixL
  rw [List.range_succ, List.foldl_append]
  simp [hv]
set_option maxHeartbeats 2000000 in
theorem index_any (A : Option Addr) (n ca : Nat) (l : List Wk) (w : World) (hx : RdW w A n l) (hn : n ≤ 1000) : Calls Try.prog 46 #[.slice A n ca] w fun e w' => ∃ b, e = .returned (.map (some b)) ∧ w.heap.size ≤ b ∧ MapAt w' b en ei (ixL l n) ∧ Kp No w w' := by
  have hl := hx.1
  have hmm := @run_makeMap Try.prog
  go_enter Try.func46, Try.ntmps46
  go_wp2_with fail
  obtain ⟨W0, hW0⟩ : ∃ W0, W0 = w.alloc (.map #[] 0) := ⟨_, rfl⟩
  obtain ⟨B, hB⟩ : ∃ B, B = w.heap.size := ⟨_, rfl⟩
  rw [← hW0, ← hB]
  have hm0 : MapAt W0 B en ei (ixL l 0) := by rw [hW0, hB]; exact MapAt.made w en ei
  have hk0 : Kp No w W0 := by rw [hW0]; exact Kp.alloc _ _ _
  have hB2 : w.heap.size ≤ B := by omega
  have HM0 := Lib.hid hm0
  clear hW0 hB hm0 hmm
  go_loopw [8] (fun vi wr => ∃ i : Nat, i ≤ n ∧ vi = .int .i64 i ∧ MapAt wr B en ei (ixL l i) ∧ Kp (fun k => k = B) W0 wr) (fun vi _ => n - (intOf vi).toNat)
  case atStart => exact ⟨0, by omega, rfl, HM0.out, Kp.refl _ _⟩
  case round =>
    obtain ⟨i, hi, rfl, hm, hkp⟩ := hrel
    have HM := Lib.hid hm
    have hkw : Kp No w wr := hk0.trans hkp fun k hk e => by have e : k = B := e; omega
    have hBr := hm.lt
    clear hm
    by_cases hlt : i < n
    · obtain ⟨v, hv⟩ : ∃ v, l[i]? = some v := ⟨_, List.getElem?_eq_getElem (by omega)⟩
      obtain ⟨b, o, rfl, hb, hat⟩ := RdW.at_ (hx.no hkw) hv
      have hof := of_any b (o + i * 11) v wr hat
      have HS := Lib.hid (ixL_succ hv)
      clear hv hat
      go_wp2_with fail
      refine hof.mono ?_
      rintro e w1 ⟨rfl, hk1⟩
      have hm1 : MapAt w1 B en ei (ixL l i) := HM.out.of_block (hk1.block B hBr id)
      go_wp2_with (at_mapUpdate; refine wpL_update _ rfl _ _ _ _ rfl nameOk Try.underlying69 hm1 v.nm (i : Int) rfl rfl rfl (fun w5 hd5 hg5 hs5 => ?_))
      go_roundw
      case rel => exact ⟨i + 1, by omega, by go_num, by rw [HS.out]; exact hd5, (hkp.no hk1).tr (Kp.grown hg5 fun k hk _ => by injection hk with hk; exact hk.symm)⟩
      case measure => simp [intOf]; omega
    · obtain rfl : i = n := by omega
      go_wp2_with fail
      go_ret
      exact ⟨B, rfl, hB2, HM.out, hkw⟩
end Go.Proofs.Ytjbpdimepckmfaa

namespace Go.Proofs.Ytjbpdimepckmfaa
open Go.RowKit Go.Kq
set_option maxHeartbeats 8000000 in
set_option maxRecDepth 100000 in
theorem valid_k0 (b o : Nat) (v : Wk) (w : World) (h : WkAt w b o v) (_hs : v.tx.size ≤ maxLen) (hN : okN v.wk v.num = true) (hC1 : 1 ≤ v.ck) (hC2 : v.ck ≤ 1000000000) (h1 : v.kd ≠ 1) (h2 : v.kd ≠ 2) (h3 : v.kd ≠ 3) (h4 : v.kd ≠ 4) : Calls Try.prog 55 #[.pointer (some ⟨b, o, none⟩)] w fun e w' => e = .returned (.bool (okW v)) ∧ Kp No w w' := by
  have hb := h.lt
  have HW := Lib.hid (show okW v = okK v by unfold okW; rw [hN, decide_eq_true hC1, decide_eq_true hC2]; rfl)
  have HK := Lib.hid (okK0 h1 h2 h3 h4)
  go_enter Try.func55, Try.ntmps55
  go_wp2_with fail
  refine (of_any b o v w h).mono ?_
  rintro e w1 ⟨rfl, hk1⟩
  go_wp2_with fail
  refine (there_any v.wk v.num w1).mono ?_
  rw [hN]
  rintro e w2 ⟨rfl, hk2⟩
  have hk02 := hk1.tr hk2
  have HA := Lib.hid (h.no hk02)
  have hsz := hk02.size
  have hb2 : b < w2.heap.size := by omega
  have hne : b ≠ w2.heap.size := by omega
  obtain ⟨c0, c1, c2, c3, _⟩ := h.no hk02
  clear h hk1 hk2
  go_wp2_with fail
  go_region
  obtain ⟨w3, hw3⟩ : ∃ w3, w3 = (w2.alloc (.cells #[.int .i64 v.wk, .int .i64 v.num, .int .i64 v.ck, .int .i64 v.kd, .int .i64 0, .int .i64 0, .int .i64 0, .int .i64 0, .int .i64 0, .int .i64 0, .string ⟨#[]⟩] 41)).drew := ⟨_, rfl⟩
  rw [← hw3]
  have hb3 : w3.heap[w2.heap.size]? = some (.cells #[.int .i64 v.wk, .int .i64 v.num, .int .i64 v.ck, .int .i64 v.kd, .int .i64 0, .int .i64 0, .int .i64 0, .int .i64 0, .int .i64 0, .int .i64 0, .string ⟨#[]⟩] 41 (0, 0)) := by rw [hw3]; exact heap_alloc_new _ _
  have hk23 : Kp No w2 w3 := by rw [hw3]; exact (Kp.alloc _ _ _).tr (Kp.drew _ _)
  have hk3 := hk02.tr hk23
  have HA3 := Lib.hid (HA.out.no hk23)
  have HB3 := Lib.hid hb3
  have hb3 := (Array.getElem?_eq_some_iff.1 hb3).1
  clear hw3 hk23 hk02 c0 c1 c2 c3 HA
  have e1 : (v.kd == 1) = false := by rw [beq_eq_false_iff_ne]; exact h1
  have e2 : (v.kd == 2) = false := by rw [beq_eq_false_iff_ne]; exact h2
  have e3 : (v.kd == 3) = false := by rw [beq_eq_false_iff_ne]; exact h3
  have e4 : (v.kd == 4) = false := by rw [beq_eq_false_iff_ne]; exact h4
  obtain ⟨_, _, _, c3, _⟩ := HA3.out
  clear h1 h2 h3 h4
  go_wp2_with fail
  go_quiet (fail)
  go_wp2
  go_ret
  exact ⟨ret_bool (by rw [HW.out, HK.out]), hk3.tr (Kp.drewN _ _ _)⟩
end Go.Proofs.Ytjbpdimepckmfaa

namespace Go.Proofs.Ytjbpdimepckmfaa
open Go.RowKit Go.Kq

set_option maxHeartbeats 4000000 in
set_option maxRecDepth 100000 in
theorem valid_any (b o : Nat) (v : Wk) (w : World) (h : WkAt w b o v) (hs : v.tx.size ≤ maxLen) : Calls Try.prog 55 #[.pointer (some ⟨b, o, none⟩)] w fun e w' => e = .returned (.bool (okW v)) ∧ Kp No w w' := by
  cases hN : okN v.wk v.num
  · have HW := Lib.hid (show okW v = false by unfold okW; rw [hN]; rfl)
    go_enter Try.func55, Try.ntmps55
    go_wp2_with fail
    refine (of_any b o v w h).mono ?_
    rintro e w1 ⟨rfl, hk1⟩
    go_wp2_with fail
    refine (there_any v.wk v.num w1).mono ?_
    rw [hN]
    rintro e w2 ⟨rfl, hk2⟩
    go_wp2_with fail
    go_ret
    exact ⟨ret_bool (by rw [HW.out]), hk1.tr hk2⟩
  · by_cases hC : 1 ≤ v.ck ∧ v.ck ≤ 1000000000
    · by_cases h1 : v.kd = 1
      · exact valid_k1 b o v w h hs hN hC.1 hC.2 h1
      by_cases h2 : v.kd = 2
      · exact valid_k2 b o v w h hs hN hC.1 hC.2 h2
      by_cases h3 : v.kd = 3
      · exact valid_k3 b o v w h hs hN hC.1 hC.2 h3
      by_cases h4 : v.kd = 4
      · exact valid_k4 b o v w h hs hN hC.1 hC.2 h4
      exact valid_k0 b o v w h hs hN hC.1 hC.2 h1 h2 h3 h4
    · have HW := Lib.hid (show okW v = false by unfold okW; rw [hN]; by_cases h1 : 1 ≤ v.ck <;> by_cases h2 : v.ck ≤ 1000000000 <;> simp [h1, h2] <;> omega)
      go_enter Try.func55, Try.ntmps55
      go_wp2_with fail
      refine (of_any b o v w h).mono ?_
      rintro e w1 ⟨rfl, hk1⟩
      go_wp2_with fail
      refine (there_any v.wk v.num w1).mono ?_
      rw [hN]
      rintro e w2 ⟨rfl, hk2⟩
      have hk02 := hk1.tr hk2
      obtain ⟨c0, c1, c2, c3, _⟩ := h.no hk02
      go_wp2_with fail
      all_goals first
        | omega
        | (go_ret
           exact ⟨ret_bool (by rw [HW.out]), hk02⟩)
end Go.Proofs.Ytjbpdimepckmfaa

namespace Go.Proofs.Ytjbpdimepckmfaa
open Go.RowKit Go.Kq

theorem info41 : (Try.prog.info? 41).map (fun i => (i.zero, i.size, i.bytes)) = some (some (Wk.val default), 11, 96) := by kernel_rfl
theorem wk_one (l : List Wk) : ∀ u ∈ l.flatMap Wk.cells, u.oneCell' = true := by
  intro u hu
  obtain ⟨v, _, hv⟩ := List.mem_flatMap.1 hu
  simp [Wk.cells] at hv
  rcases hv with rfl | rfl | rfl | rfl | rfl | rfl | rfl | rfl | rfl | rfl | rfl <;> rfl
/-- The cells of a slice of works. -/
theorem rd_news {w : World} {A : Option Addr} {n : Nat} {l : List Wk} (h : RdW w A n l) : ∀ ad, A = some ad → ∀ j u, (l.flatMap Wk.cells)[j]? = some u → w.cell? (ad.add j) = some u := by
  intro ad had j u hj
  have hjl := (List.getElem?_eq_some_iff.1 hj).1
  rw [flat_len wk_len] at hjl
  have hd : j / 11 < l.length := Nat.div_lt_of_lt_mul (by omega)
  obtain ⟨b, o, hA, _, hc⟩ := h.2 (j / 11) l[j / 11] (List.getElem?_eq_getElem hd)
  rw [had] at hA
  cases hA
  have hm : j % 11 < (l[j / 11]).cells.length := by rw [wk_len]; omega
  have h1 := flat_at wk_len l (j / 11) l[j / 11] (j % 11) _ (List.getElem?_eq_getElem hd) (List.getElem?_eq_getElem hm)
  rw [Nat.div_add_mod', hj] at h1
  have h2 := hc (j % 11) _ (List.getElem?_eq_getElem hm)
  rw [add_at, show o + j = o + j / 11 * 11 + j % 11 by omega, h2]
  exact h1.symm
set_option maxHeartbeats 1000000 in
theorem clone_any (A : Option Addr) (n ca : Nat) (l : List Wk) (w : World) (h : RdW w A n l) (hn : n ≤ 1000) (hA : A = none → n = 0 ∧ ca = 0) :
    Calls Try.prog 47 #[.slice A n ca] w fun e w' => ∃ v, e = .returned v ∧ w'.ownsRow w.heap.size 41 11 v n (l.flatMap Wk.cells) ∧ Kp No w w' := by
  obtain ⟨i0, hi0, hz0, hz1, hz2⟩ := info_parts info41
  have hl := h.1
  cases A with
  | none =>
    obtain ⟨rfl, rfl⟩ := hA rfl
    have qT : ∀ (w : World) (a : Option Addr) (n c n' c' : Nat), (binOp .eql 22 (.slice a n c) (.slice none n' c')).run Try.prog w = .ok (.bool a.isNone) w := fun w a n c n' c' => Lib.run_eql_slice_nil w _ _ a n c n' c' Try.underlying22
    have hl0 := List.length_eq_zero_iff.1 hl
    subst hl0
    clear hl h
    go_enter Try.func47, Try.ntmps47
    go_wp2
    go_ret
    exact ⟨_, rfl, ⟨rfl, .inl ⟨rfl, rfl⟩⟩, Kp.refl _ _⟩
  | some ad =>
    have qT : ∀ (w : World) (a : Option Addr) (n c n' c' : Nat), (binOp .eql 22 (.slice a n c) (.slice none n' c')).run Try.prog w = .ok (.bool a.isNone) w := fun w a n c n' c' => Lib.run_eql_slice_nil w _ _ a n c n' c' Try.underlying22
    have hnews := rd_news (h.no (Kp.alloc No w (.cells #[] 41)))
    go_enter Try.func47, Try.ntmps47
    go_wp2_with (at_builtin; refine wpL_append_any rfl _ _ 22 rfl w.heap.size 41 i0 (Wk.val default) 11 96 Try.underlying22 hi0 hz0 hz1 hz2 rfl (by decide) (.slice (some ⟨w.heap.size, 0, none⟩) 0 0) 0 [] rfl (own_empty (Nat.le_refl _)) (some ad) n ca (l.flatMap Wk.cells) rfl (by rw [flat_len wk_len, hl]) (fun h => (by cases h)) hnews (wk_one l) (by unfold maxLen; omega) (by omega) (by simp) ?_; intro v' w1 hown' hgrow hat)
    go_ret
    refine ⟨v', rfl, by simpa using hown', (Kp.alloc _ _ _).trans (Kp.grown (S := Kq.One w.heap.size) hgrow fun k hk _ => by simp [Value.ownBlock] at hk; exact hk.symm) fun k hk hS => ?_⟩
    unfold Kq.One at hS
    omega
set_option maxHeartbeats 1000000 in
theorem orE_any (A : Option Addr) (n cap : Nat) (xs : List Int) (w : World) (hx : RdI .i64 w A n xs) (hn : n ≤ 1000000) :
    Calls Try.prog 45 #[.slice A n cap] w fun e w' => e = .returned (.int .i64 (orL xs)) ∧ w' = w := by
  have hl := hx.1
  go_enter Try.func45, Try.ntmps45
  go_wp2_with fail
  go_loop [8] (fun i => ∃ k : Nat, k ≤ n ∧ i = .int .i64 k ∧ ∀ j x, j < k → xs[j]? = some x → x = 0) (fun i => n - (intOf i).toNat)
  case atStart => exact ⟨0, by omega, rfl, fun j x h => by omega⟩
  case round =>
    obtain ⟨k, hk, rfl, hz⟩ := hrel
    have HZ := Lib.hid hz
    clear hz
    by_cases hlt : k < n
    · obtain ⟨x, hxk⟩ : ∃ x, xs[k]? = some x := ⟨_, List.getElem?_eq_getElem (by omega)⟩
      obtain ⟨b, o, rfl, hb, c0⟩ := hx.2 k x hxk
      have HX := Lib.hid hxk
      clear hxk
      by_cases h0 : x = 0
      · subst h0
        go_wp2
        go_round
        case rel =>
          refine ⟨k + 1, by omega, by go_num, fun j y hj hy => ?_⟩
          by_cases e : j = k
          · subst e
            have := HX.out
            rw [hy] at this
            cases this
            rfl
          · exact HZ.out j y (by omega) hy
        case measure => simp [intOf]; omega
      · have hne : (x == 0) = false := by rw [beq_eq_false_iff_ne]; exact h0
        go_wp2
        go_ret
        refine ⟨ret_i64 ?_, rfl⟩
        rw [orL_drop xs k HZ.out, List.drop_eq_getElem_cons (by omega)]
        have := HX.out
        rw [List.getElem?_eq_getElem (by omega)] at this
        simp at this
        simp [orL, this, h0]
    · go_wp2
      go_ret
      refine ⟨ret_i64 ?_, rfl⟩
      rw [orL_drop xs k HZ.out, List.drop_of_length_le (by omega)]
      rfl
end Go.Proofs.Ytjbpdimepckmfaa
