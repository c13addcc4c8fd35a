/- Chapter 09: the reference's heights and used: the walks. Printed by gen_ntd.py. -/
import Derived.Test.YtamjhpdgclbfgaaXNtCM
namespace Go.Proofs.Ytamjhpdgclbfgaa
open Go.RowKit Go.Kq

/-- Two rows of numbers that are turned. -/
structure H2 (w3 : World) (base g1 g2 M : Nat) (q : List Int × List Int) (wr : World) : Prop where
  a : wr.ownsRow base 2 1 (.slice (some ⟨g1, 0, none⟩) M M) M (q.1.map i64V)
  b : wr.ownsRow base 2 1 (.slice (some ⟨g2, 0, none⟩) M M) M (q.2.map i64V)
  k : Kp (fun b => b = g1 ∨ b = g2) w3 wr
  n : g1 ≠ g2
theorem row_set {wr : World} {base g M : Nat} {xs : List Int} (h : wr.ownsRow base 2 1 (.slice (some ⟨g, 0, none⟩) M M) M (xs.map i64V)) (j : Nat) (x : Int) : ((wr.setCell ⟨g, j, none⟩ (.int .i64 x)).drew).ownsRow base 2 1 (.slice (some ⟨g, 0, none⟩) M M) M ((xs.set j x).map i64V) ∧ Kp (Kq.One g) wr ((wr.setCell ⟨g, j, none⟩ (.int .i64 x)).drew) := by
  refine ⟨?_, (kp_setOne wr g j _).tr (Kp.drew _ _)⟩
  rw [List.map_set]
  exact (Kp.drew (fun _ => False) _).owns (own_set h j _) (fun _ _ h => h)
theorem H2.no {w3 wr w' : World} {base g1 g2 M : Nat} {q : List Int × List Int} (h : H2 w3 base g1 g2 M q wr) (k : Kp No wr w') : H2 w3 base g1 g2 M q w' := ⟨own_kp h.a k (fun _ _ h => h), own_kp h.b k (fun _ _ h => h), h.k.tr (k.mono fun _ _ h => False.elim h), h.n⟩
theorem H2.cell {w3 wr : World} {base g1 g2 M b o : Nat} {q : List Int × List Int} {v : Value} (h : H2 w3 base g1 g2 M q wr) (hc : w3.cell? ⟨b, o, none⟩ = some v) (h1 : b < g1) (h2 : b < g2) : wr.cell? ⟨b, o, none⟩ = some v := h.k.cell hc (fun e => by have e : b = g1 ∨ b = g2 := e; omega)
structure H1 (w3 : World) (base g1 M : Nat) (q : List Int) (wr : World) : Prop where
  a : wr.ownsRow base 2 1 (.slice (some ⟨g1, 0, none⟩) M M) M (q.map i64V)
  k : Kp (Kq.One g1) w3 wr
theorem H1.set {w3 wr : World} {base g1 M : Nat} {q : List Int} (h : H1 w3 base g1 M q wr) (j : Nat) (x : Int) : H1 w3 base g1 M (q.set j x) ((wr.setCell ⟨g1, j, none⟩ (.int .i64 x)).drew) := by
  obtain ⟨h1, h2⟩ := row_set h.a j x
  exact ⟨h1, h.k.tr h2⟩
theorem H1.cell {w3 wr : World} {base g1 M b o : Nat} {q : List Int} {v : Value} (h : H1 w3 base g1 M q wr) (hc : w3.cell? ⟨b, o, none⟩ = some v) (h1 : b ≠ g1) : wr.cell? ⟨b, o, none⟩ = some v := h.k.cell hc (fun e => by have e : b = g1 := e; omega)
structure CtOk (l : List Ct) (K : Int) : Prop where
  c : ∀ c ∈ l, 0 ≤ c.w ∧ c.w ≤ 20000000 ∧ 0 ≤ c.h ∧ c.h ≤ 20000000
  k : 0 ≤ K ∧ K ≤ 50000
end Go.Proofs.Ytamjhpdgclbfgaa
