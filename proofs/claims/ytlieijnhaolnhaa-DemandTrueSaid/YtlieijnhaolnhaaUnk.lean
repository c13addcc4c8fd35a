/- Chapter 13: unknown: the walk. -/
import Derived.Test.YtlieijnhaolnhaaOpo
namespace Go.Proofs.Ytlieijnhaolnhaa
open Go.RowKit Go.Kq

set_option maxHeartbeats 2000000 in
theorem unknown_any (g m cp : Nat) (P : Option Addr) (E : List (Pp × Rw)) (p : Pp) (w : World) (hm : MapAt w g ep rwV E) :
    Calls Try.prog 41 #[.agg #[.map (some g), .slice P m cp], ep p] w fun e w' => e = .returned (.bool (!(get1 E p).isSome)) ∧ Kp No w w' := by
  obtain ⟨p1, p2⟩ := p
  have hm2 := (hm.alloc (Obj.cells #[.map (some g), .slice P m cp] 77)).alloc (Obj.cells #[.int .i64 p1, .int .i64 p2] 51)
  have hlk := hm2.run_lookup pkeyOk Try.underlying75 (zeroR _) (p1, p2) true
  clear hm hm2
  simp only [ep, if_true] at hlk ⊢
  generalize ((get1 E (p1, p2)).getD row0) = x at hlk
  generalize (get1 E (p1, p2)).isSome = b at *
  obtain ⟨x1, x2, x3, x4, x5⟩ := x
  simp only [rwV] at hlk
  go_enter Try.func41, Try.ntmps41
  go_wp2
  go_ret
  exact ⟨rfl, ((Kp.alloc No w _).tr (Kp.alloc No _ _)).tr (Kp.alloc No _ _)⟩
end Go.Proofs.Ytlieijnhaolnhaa
