/- A walk stops at a load of a given slot. No program in sight. -/
import Derived.TacticsIn
import Derived.Test.YtjbpdimepckmfaaXLibAppM
namespace Go.Kq
open Go.RowKit

theorem stopIn_load {F : Fence} {n : Nat} {P : Program} {ops : Array Oper} {Q : Exit → Act → World → Prop} {rest : List Oper} {A : Act} {w : World} {d : Option Tmp} {p : String} {aft : Array Edge} {g : Option (Nat × Bool)} {ty t : TypeId} (x : Nat)
    (h : Stop (wpListIn F n P ops Q ({ dst := d, op := Op.load t (Operand.tmp x), type := ty, pos := p, after := aft, guard := g } :: rest) A w)) : wpListIn F n P ops Q ({ dst := d, op := Op.load t (Operand.tmp x), type := ty, pos := p, after := aft, guard := g } :: rest) A w := h
theorem stop_load {P : Program} {ops : Array Oper} {Q : Exit → Act → World → Prop} {rest : List Oper} {A : Act} {w : World} {d : Option Tmp} {p : String} {aft : Array Edge} {g : Option (Nat × Bool)} {ty t : TypeId} (x : Nat)
    (h : Stop (wpList P ops Q ({ dst := d, op := Op.load t (Operand.tmp x), type := ty, pos := p, after := aft, guard := g } :: rest) A w)) : wpList P ops Q ({ dst := d, op := Op.load t (Operand.tmp x), type := ty, pos := p, after := aft, guard := g } :: rest) A w := h
end Go.Kq
