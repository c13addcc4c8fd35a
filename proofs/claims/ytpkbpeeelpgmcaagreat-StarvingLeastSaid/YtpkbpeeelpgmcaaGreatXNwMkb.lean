/- A made row of booleans. -/
import Derived.Test.YtpkbpeeelpgmcaaGreatXNwRckM
import Derived.Test.YtpkbpeeelpgmcaaGreatXLibMakeM
namespace Go.Proofs.YtpkbpeeelpgmcaaGreat
open Go.RowKit Go.Kq Go.Flow

theorem infoBl : (Tryz.prog.info? 4).map (fun i => (i.zero, i.size, i.bytes)) = some (some (.bool false), 1, 1) := by kernel_rfl
theorem rep_b1 : ∀ m : Nat, (List.replicate m false).flatMap b1 = List.replicate m (Value.bool false)
  | 0 => rfl
  | m + 1 => by rw [List.replicate_succ, List.flatMap_cons, rep_b1 m]; rfl
theorem make_bools (m : Nat) (hm : m ≤ 100000) (w : World) : (Instr.makeSlice 74 (.int .i64 (m : Nat)) (.int .i64 (m : Nat))).run Tryz.prog w = .ok (.slice (some ⟨w.heap.size, 0, none⟩) m m) (w.alloc (.cells ((List.replicate m (Value.bool false)).toArray) 4)) := by
  obtain ⟨i0, hi, hz0, hz1, hz2⟩ := info_parts infoBl
  have := run_make_flat w b1 false _ _ i0 _ 1 1 m Tryz.underlying74 hi hz0 hz1 hz2 (by decide) rfl rfl (by omega) (by omega)
  rw [this, rep_b1]
end Go.Proofs.YtpkbpeeelpgmcaaGreat
