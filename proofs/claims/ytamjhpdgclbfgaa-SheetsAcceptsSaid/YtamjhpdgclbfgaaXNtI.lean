/- Chapter 09: the reference's Nest: the walk. Printed by gen_nti.py. -/
import Derived.Test.YtamjhpdgclbfgaaXNtH
import Derived.Test.YtamjhpdgclbfgaaXAcCM
import Derived.Test.YtamjhpdgclbfgaaXSptM
import Derived.Test.YtamjhpdgclbfgaaXLibHwM
import Derived.Test.YtamjhpdgclbfgaaXSpyM
namespace Go.Proofs.Ytamjhpdgclbfgaa
open Go.RowKit Go.Kq

theorem three_cellsP {w : World} {B : Nat} {a b c : Value} {t : TypeId} (h : w.heap[B]? = some (.cells #[a, b, c] t (0, 0))) : w.cell? ⟨B, 0, none⟩ = some a ∧ w.cell? ⟨B, 1, none⟩ = some b ∧ w.cell? ⟨B, 2, none⟩ = some c := ⟨by rw [cell_of_row w B 0 _ _ _ h]; rfl, by rw [cell_of_row w B 1 _ _ _ h]; rfl, by rw [cell_of_row w B 2 _ _ _ h]; rfl⟩
def RepR (gB n : Nat) (w : World) (R : RB) (v9 v10 v11 : Value) : Prop := match R with
  | none => v9 = .int .i64 0 ∧ v10 = .int .i64 0 ∧ v11 = .bool false ∧ w.heap[gB]? = some (.cells #[.slice none 0 0, .slice none 0 0] 69 (0, 0))
  | some (S, ON, c, d) => v9 = .int .i64 c ∧ v10 = .int .i64 d ∧ v11 = .bool true ∧ S ∈ grpR n ∧ ON ∈ grpR (cntF S) ∧ ∃ AS cs AO m co, w.heap[gB]? = some (.cells #[.slice AS n cs, .slice AO m co] 69 (0, 0)) ∧ RdI .i64 w AS n (S.map Int.ofNat) ∧ RdI .i64 w AO m (ON.map Int.ofNat) ∧ (∀ b o, AS = some ⟨b, o, none⟩ → b ≠ gB) ∧ ∀ b o, AO = some ⟨b, o, none⟩ → b ≠ gB
theorem RepR.no {gB n : Nat} {w w' : World} {R : RB} {v9 v10 v11 : Value} (h : RepR gB n w R v9 v10 v11) (k : Kp No w w') : RepR gB n w' R v9 v10 v11 := by
  match R, h with
  | none, h => exact ⟨h.1, h.2.1, h.2.2.1, k.heap h.2.2.2 id⟩
  | some (S, ON, c, d), h =>
    obtain ⟨h1, h2, h3, h4, h5, AS, cs, AO, m, co, h6, h7, h8, h9, h10⟩ := h
    exact ⟨h1, h2, h3, h4, h5, AS, cs, AO, m, co, k.heap h6 id, h7.no k, h8.no k, h9, h10⟩
end Go.Proofs.Ytamjhpdgclbfgaa
