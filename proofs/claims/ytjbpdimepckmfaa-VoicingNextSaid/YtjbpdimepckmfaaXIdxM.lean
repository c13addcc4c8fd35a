/- A look-up in a region that draws its order and writes only at its end. No program in sight. · Chapter 27: the index of a record: the walk. -/
import Derived.StillTailTactics
import Derived.WalkKit
import Derived.Test.YtjbpdimepckmfaaXChk
import Derived.Test.YtjbpdimepckmfaaXLibMapW
namespace Go.Kq
theorem wpStill_lookup {P : Program} {ops : Array Oper} {w : World} {Q : Act → Prop} {a : Act} {o : Oper} {rest : List Oper} (hg : o.guard = none) (m x : Operand) (t : TypeId) (ok : Bool) (hop : o.op = Op.lookup t m x ok)
    (mv xv v : Value) (hm : a.eval m = mv) (hx : a.eval x = xv) (hrun : (Instr.lookup t mv xv ok).run P w = .ok v w) (h : wpStill P ops w Q rest (a.put o.dst v)) : wpStill P ops w Q (o :: rest) a := by
  refine wpStill_step fun K hK => ?_
  have hw : Region.wanted o (yielded ops a.tmps) = true := by simp [Region.wanted, hg]
  rw [if_pos hw]
  unfold Oper.still
  simp only [execOp, hop, hm, hx, Sem.run_bind, hrun, Result.andThen]
  exact ⟨rfl, hK _ h⟩
end Go.Kq

namespace Go.Proofs.Ytjbpdimepckmfaa
open Go.RowKit Go.Kq

abbrev Nm := Int × Int
def en (k : Nm) : Value := .agg #[.int .i64 k.1, .int .i64 k.2]
def ei (x : Int) : Value := .int .i64 x
theorem en_inj {a b : Nm} (h : en a = en b) : a = b := by
  obtain ⟨a1, a2⟩ := a
  obtain ⟨b1, b2⟩ := b
  simpa [en] using h
theorem name_equal (w : World) (x y : Nm) : (Op.equal 74 (en x) (en y)).run Try.prog w = .ok (decide (x = y)) w := by
  have hS : Try.prog.underlying 74 = some (.struct (Try.prog.fieldsOf 74)) := by kernel_rfl
  have hp : Try.prog.stoodInHeld 74 = false := by kernel_rfl
  have u3 := Try.underlying3
  obtain ⟨x1, x2⟩ := x
  obtain ⟨y1, y2⟩ := y
  simp only [Op.equal, Op.maxDepth, en]
  rw [show (10000 : Nat) = 9999 + 1 from rfl, run_equalIn_agg w 9999 74 _ _ hS hp]
  simp only [Program.fieldsOf, Try.underlying74]
  go_simp
  by_cases h1 : x1 = y1 <;> by_cases h2 : x2 = y2 <;> simp [h1, h2]
theorem check_int (n : Nat) (w : World) (em : Bool) (x : Int) : (Instr.checkKey em (n + 1) 3 (.int .i64 x)).run Try.prog w = .ok () w := by
  simp [Instr.checkKey, run_underlying Try.underlying3]
theorem name_check (w : World) (em : Bool) (k : Nm) : (Instr.checkKey em 10000 74 (en k)).run Try.prog w = .ok () w := by
  obtain ⟨x1, x2⟩ := k
  have a3 := Try.isAgg3
  have z3 := Try.sizeOf3
  have c := fun x => check_int 9998 w em x
  rw [show (10000 : Nat) = 9998 + 1 + 1 from rfl]
  unfold Instr.checkKey
  simp only [en, Sem.run_bind, run_underlying Try.underlying74, Result.andThen_ok]
  go_simp
theorem nameOk : KeyOk Try.prog 74 en := aggKey_ok Try.underlying74 en_inj name_check name_equal (fun k => by simp [en, Instr.sameBits])

def Wk.nm (v : Wk) : Nm := (v.wk, v.num)
def Wk.onm (v : Wk) : Nm := (v.ow, v.on)
/-- The index of the works ahead of i. -/
def ixL (l : List Wk) (i : Nat) : List (Nm × Int) := (List.range i).foldl (fun E j => match l[j]? with | some v => ins v.nm (j : Int) E | none => E) []
theorem ixL_succ {l : List Wk} {i : Nat} {v : Wk} (hv : l[i]? = some v) : ixL l (i + 1) = ins v.nm (i : Int) (ixL l i) := by
  unfold ixL
  rw [List.range_succ, List.foldl_append]
  simp [hv]
set_option maxHeartbeats 2000000 in
theorem index_any (A : Option Addr) (n ca : Nat) (l : List Wk) (w : World) (hx : RdW w A n l) (hn : n ≤ 1000) : Calls Try.prog 46 #[.slice A n ca] w fun e w' => ∃ b, e = .returned (.map (some b)) ∧ w.heap.size ≤ b ∧ MapAt w' b en ei (ixL l n) ∧ Kp No w w' := by
  have hl := hx.1
  have hmm := @run_makeMap Try.prog
  go_enter Try.func46, Try.ntmps46
  go_wp2_with fail
  obtain ⟨W0, hW0⟩ : ∃ W0, W0 = w.alloc (.map #[] 0) := ⟨_, rfl⟩
  obtain ⟨B, hB⟩ : ∃ B, B = w.heap.size := ⟨_, rfl⟩
  rw [← hW0, ← hB]
  have hm0 : MapAt W0 B en ei (ixL l 0) := by rw [hW0, hB]; exact MapAt.made w en ei
  have hk0 : Kp No w W0 := by rw [hW0]; exact Kp.alloc _ _ _
  have hB2 : w.heap.size ≤ B := by omega
  have HM0 := Lib.hid hm0
  clear hW0 hB hm0 hmm
  go_loopw [8] (fun vi wr => ∃ i : Nat, i ≤ n ∧ vi = .int .i64 i ∧ MapAt wr B en ei (ixL l i) ∧ Kp (fun k => k = B) W0 wr) (fun vi _ => n - (intOf vi).toNat)
  case atStart => exact ⟨0, by omega, rfl, HM0.out, Kp.refl _ _⟩
  case round =>
    obtain ⟨i, hi, rfl, hm, hkp⟩ := hrel
    have HM := Lib.hid hm
    have hkw : Kp No w wr := hk0.trans hkp fun k hk e => by have e : k = B := e; omega
    have hBr := hm.lt
    clear hm
    by_cases hlt : i < n
    · obtain ⟨v, hv⟩ : ∃ v, l[i]? = some v := ⟨_, List.getElem?_eq_getElem (by omega)⟩
      obtain ⟨b, o, rfl, hb, hat⟩ := RdW.at_ (hx.no hkw) hv
      have hof := of_any b (o + i * 11) v wr hat
      have HS := Lib.hid (ixL_succ hv)
      clear hv hat
      go_wp2_with fail
      refine hof.mono ?_
      rintro e w1 ⟨rfl, hk1⟩
      have hm1 : MapAt w1 B en ei (ixL l i) := HM.out.of_block (hk1.block B hBr id)
      go_wp2_with (at_mapUpdate; refine wpL_update _ rfl _ _ _ _ rfl nameOk Try.underlying69 hm1 v.nm (i : Int) rfl rfl rfl (fun w5 hd5 hg5 hs5 => ?_))
      go_roundw
      case rel => exact ⟨i + 1, by omega, by go_num, by rw [HS.out]; exact hd5, (hkp.no hk1).tr (Kp.grown hg5 fun k hk _ => by injection hk with hk; exact hk.symm)⟩
      case measure => simp [intOf]; omega
    · obtain rfl : i = n := by omega
      go_wp2_with fail
      go_ret
      exact ⟨B, rfl, hB2, HM.out, hkw⟩
end Go.Proofs.Ytjbpdimepckmfaa
