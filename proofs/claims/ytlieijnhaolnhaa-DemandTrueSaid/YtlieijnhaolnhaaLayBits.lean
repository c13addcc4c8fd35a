/- Chapter 13: the library's functions at this dump, as their contracts want them (printed by lay.py). -/
import Derived.Shelf.Lays
import Derived.Shelf.Lays7
import Derived.Ground.NamesProg
import Derived.Ground.Names7Prog
import Derived.Shelf.SlGeneric
import Derived.Test.YtlieijnhaolnhaaProg
namespace Go.Proofs.Ytlieijnhaolnhaa
open Go.Shelf
def mul64_ren : Go.Shelf.Ren := ⟨fun | 264 => 86 | n => n, fun | 53 => 61 | 46 => 90 | n => n, fun | n => n⟩
theorem mul64 : Go.Proofs.Lays.n264 Try.prog mul64_ren := {
  mixed := by kernel_rfl
  f264 := Try.func86.trans (congrArg some (by kernel_rfl))
  t46 := Try.underlying90
  a46 := Try.isAgg90
  z46 := Try.sizeOf90
  v46 := Try.zeroValue90
  t53 := Try.underlying61
  a53 := Try.isAgg61
  z53 := Try.sizeOf61
  v53 := Try.zeroValue61 }
def lead64_ren : Go.Shelf.Ren := ⟨fun | 134 => 101 | 129 => 74 | n => n, fun | 53 => 61 | 3 => 3 | 4 => 4 | 46 => 90 | 5 => 5 | 9 => 9 | n => n, fun | n => n⟩
theorem lead64 : Go.Proofs.Lays.n134 Try.prog lead64_ren := {
  mixed := by kernel_rfl
  f129 := Try.func74.trans (congrArg some (by kernel_rfl))
  f134 := Try.func101.trans (congrArg some (by kernel_rfl))
  t3 := Try.underlying3
  a3 := Try.isAgg3
  z3 := Try.sizeOf3
  v3 := Try.zeroValue3
  t4 := Try.underlying4
  a4 := Try.isAgg4
  z4 := Try.sizeOf4
  v4 := Try.zeroValue4
  t5 := Try.underlying5
  a5 := Try.isAgg5
  z5 := Try.sizeOf5
  v5 := Try.zeroValue5
  t9 := Try.underlying9
  a9 := Try.isAgg9
  z9 := Try.sizeOf9
  v9 := Try.zeroValue9
  t46 := Try.underlying90
  a46 := Try.isAgg90
  z46 := Try.sizeOf90
  v46 := Try.zeroValue90
  t53 := Try.underlying61
  a53 := Try.isAgg61
  z53 := Try.sizeOf61
  v53 := Try.zeroValue61 }
def add64_ren : Go.Shelf.Ren := ⟨fun | 25 => 88 | n => n, fun | 22 => 61 | n => n, fun | n => n⟩
theorem add64 : Go.Proofs.Lays7.n25 Try.prog add64_ren := {
  mixed := by kernel_rfl
  f25 := Try.func88.trans (congrArg some (by kernel_rfl))
  t22 := Try.underlying61
  a22 := Try.isAgg61
  z22 := Try.sizeOf61
  v22 := Try.zeroValue61
  i22 := by kernel_rfl }
end Go.Proofs.Ytlieijnhaolnhaa
