/- Chapter 27: what Next gives (plain). · A walk stops at a load of a given slot. No program in sight. -/
import Derived.TacticsIn
import Derived.Test.YtjbpdimepckmfaaXMrgP
import Derived.Test.YtjbpdimepckmfaaXLibAppM
namespace Go.Proofs.Ytjbpdimepckmfaa
open Go.RowKit Go.Kq

/-- The clock behind i works. -/
def ckAt (l : List Wk) : Nat → Int
  | 0 => 1
  | i + 1 => match l[i]? with
    | some u => u.ck + 1
    | none => 1
/-- The work, completed behind i works. -/
def nxtW (l : List Wk) (v : Wk) (i : Nat) : Wk := { v with num := (many (l.take i) v.wk : Int) + 1, ck := ckAt l i }
/-- What Next hands back. -/
def nextV (l : List Wk) (v : Wk) : Wk × Int :=
  if chkL l ≠ 0 then (default, chkL l) else if l.length = 400 then (default, 5) else if 1000000000 < ckAt l l.length then (default, 7) else
    if okW (nxtW l v l.length) then if v.kd = 4 ∧ findN l v.onm = none then (default, 4) else (nxtW l v l.length, 0) else (default, 2)
theorem ck_bd {l : List Wk} (h : ∀ v ∈ l, okW v = true) (i : Nat) : 1 ≤ ckAt l i ∧ ckAt l i ≤ 1000000001 := by
  cases i with
  | zero =>
    have e : ckAt l 0 = 1 := rfl
    omega
  | succ i =>
    have e : ckAt l (i + 1) = match l[i]? with | some u => u.ck + 1 | none => 1 := rfl
    rw [e]
    cases hv : l[i]? with
    | none =>
      simp only
      omega
    | some u =>
      have := h u (List.mem_of_getElem? hv)
      unfold okW at this
      simp only [Bool.and_eq_true, decide_eq_true_eq] at this
      simp only
      omega
/-- A block that holds a work. -/
def BoxW (W : World) (g : Nat) (v : Wk) : Prop := W.heap[g]? = some (.cells v.cells.toArray 41 (0, 0))
theorem BoxW.lt {W : World} {g : Nat} {v : Wk} (h : BoxW W g v) : g < W.heap.size := (Array.getElem?_eq_some_iff.1 h).1
theorem BoxW.at_ {W : World} {g : Nat} {v : Wk} (h : BoxW W g v) : WkAt W g 0 v := .of fun j u hj => by
  unfold BoxW at h
  rw [cell_of_row _ _ _ _ _ _ h, Nat.zero_add]
  simpa using hj
theorem BoxW.free {W : World} {g : Nat} {v : Wk} (h : BoxW W g v) (j : Nat) : W.frozen? ⟨g, j, none⟩ = false := by
  unfold BoxW at h
  simp [World.frozen?, h]
theorem BoxW.kp {S : Nat → Prop} {W W' : World} {g : Nat} {v : Wk} (h : BoxW W g v) (k : Kp S W W') (hS : ¬ S g) : BoxW W' g v := k.heap h hS
theorem BoxW.num {W : World} {g : Nat} {v : Wk} (h : BoxW W g v) (x : Int) : BoxW (W.setCell ⟨g, 1, none⟩ (.int .i64 x)) g { v with num := x } := by
  unfold BoxW at *
  simp [World.setCell, Array.getElem?_modify, h]
  rfl
theorem BoxW.ck {W : World} {g : Nat} {v : Wk} (h : BoxW W g v) (x : Int) : BoxW (W.setCell ⟨g, 2, none⟩ (.int .i64 x)) g { v with ck := x } := by
  unfold BoxW at *
  simp [World.setCell, Array.getElem?_modify, h]
  rfl
/-- A work stored whole. -/
def putW (W : World) (g : Nat) (u : Wk) : World := ((((((((((W.setCell ⟨g, 0, none⟩ (.int .i64 u.wk)).setCell ⟨g, 1, none⟩ (.int .i64 u.num)).setCell ⟨g, 2, none⟩ (.int .i64 u.ck)).setCell ⟨g, 3, none⟩ (.int .i64 u.kd)).setCell ⟨g, 4, none⟩ (.int .i64 u.rk)).setCell ⟨g, 5, none⟩ (.int .i64 u.nt)).setCell ⟨g, 6, none⟩ (.int .i64 u.fd)).setCell ⟨g, 7, none⟩ (.int .i64 u.vl)).setCell ⟨g, 8, none⟩ (.int .i64 u.ow)).setCell ⟨g, 9, none⟩ (.int .i64 u.on)).setCell ⟨g, 10, none⟩ (.string u.tx)
theorem BoxW.put {W : World} {g : Nat} {v : Wk} (h : BoxW W g v) (u : Wk) : BoxW (putW W g u) g u ∧ Kp (Kq.One g) W (putW W g u) := by
  refine ⟨?_, ?_⟩
  · unfold BoxW putW at *
    simp [World.setCell, Array.getElem?_modify, h]
    rfl
  · unfold putW
    exact ((((((((((kp_setOne _ _ _ _).tr (kp_setOne _ _ _ _)).tr (kp_setOne _ _ _ _)).tr (kp_setOne _ _ _ _)).tr (kp_setOne _ _ _ _)).tr (kp_setOne _ _ _ _)).tr (kp_setOne _ _ _ _)).tr (kp_setOne _ _ _ _)).tr (kp_setOne _ _ _ _)).tr (kp_setOne _ _ _ _)).tr (kp_setOne _ _ _ _)
end Go.Proofs.Ytjbpdimepckmfaa

namespace Go.Kq
open Go.RowKit

theorem stopIn_load {F : Fence} {n : Nat} {P : Program} {ops : Array Oper} {Q : Exit → Act → World → Prop} {rest : List Oper} {A : Act} {w : World} {d : Option Tmp} {p : String} {aft : Array Edge} {g : Option (Nat × Bool)} {ty t : TypeId} (x : Nat)
    (h : Stop (wpListIn F n P ops Q ({ dst := d, op := Op.load t (Operand.tmp x), type := ty, pos := p, after := aft, guard := g } :: rest) A w)) : wpListIn F n P ops Q ({ dst := d, op := Op.load t (Operand.tmp x), type := ty, pos := p, after := aft, guard := g } :: rest) A w := h
theorem stop_load {P : Program} {ops : Array Oper} {Q : Exit → Act → World → Prop} {rest : List Oper} {A : Act} {w : World} {d : Option Tmp} {p : String} {aft : Array Edge} {g : Option (Nat × Bool)} {ty t : TypeId} (x : Nat)
    (h : Stop (wpList P ops Q ({ dst := d, op := Op.load t (Operand.tmp x), type := ty, pos := p, after := aft, guard := g } :: rest) A w)) : wpList P ops Q ({ dst := d, op := Op.load t (Operand.tmp x), type := ty, pos := p, after := aft, guard := g } :: rest) A w := h
end Go.Kq
