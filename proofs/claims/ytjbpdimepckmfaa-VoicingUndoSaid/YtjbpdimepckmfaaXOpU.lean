/- Chapter 27: how a uint16 that came in is read. -/
import Derived.Test.YtjbpdimepckmfaaXOpn
namespace Go.Proofs.Ytjbpdimepckmfaa
open Go.ChangeShapes Go.WideShapes Go.RowKit Go.Deep Go.Kq

section
variable {H : Type} {enc : TypeId × Value → H} {W : World} {base : Nat} {spare : Nat → Bool} {held : Bool}
theorem open_u16 {n : Int} {d : DataW H} {p : List MemPlace} (h : DataW.Trod enc Try.prog W base spare held 50 (.int .u16 n) d p) : ∃ y : Nat, n = (y : Nat) ∧ y < 65536 := by
  obtain ⟨fuel, hf⟩ := h
  obtain ⟨m, hc, _, hw⟩ := DataW.trod_int Try.underlying50 hf
  simp [Value.cells] at hc
  subst hc
  have hb := bounds_u16 hw
  exact ⟨n.toNat, (Int.toNat_of_nonneg hb.1).symm, by omega⟩
end
end Go.Proofs.Ytjbpdimepckmfaa
