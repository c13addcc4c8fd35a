/- Chapter 14: the walk of side. -/
import Derived.Test.YtjjecadfcndkaaaFil
namespace Go.Proofs.Ytjjecadfcndkaaa
open Go.RowKit Go.Kq Go.Flow

theorem own_one {w : World} {base : Nat} {e : TypeId} {v : Value} (hb : base ≤ w.heap.size) : (w.alloc (.cells #[v] e)).ownsRow base e 1 (.slice (some ⟨w.heap.size, 0, none⟩) 1 1) 1 [v] :=
  ⟨rfl, .inr ⟨_, 1, #[v], rfl, hb, heap_alloc_new w _, by omega, by unfold maxLen; omega, rfl, rfl⟩⟩
def mem (R : Nat → Bool) (n : Nat) : List Nat := (List.range n).filter R
theorem mem_succ (R : Nat → Bool) (n : Nat) : mem R (n + 1) = if R n = true then mem R n ++ [n] else mem R n := by
  unfold mem
  rw [List.range_succ, List.filter_append]
  cases h : R n <;> simp [h]
theorem mem_le (R : Nat → Bool) (n : Nat) : (mem R n).length ≤ n := by
  have := List.length_filter_le R (List.range n)
  rw [List.length_range] at this
  exact this
set_option maxHeartbeats 4000000 in
set_option maxRecDepth 100000 in
theorem side_any (base B V : Nat) (sl : Value) (L : List Pi) (w : World) (hW : Web w base B V sl L) (hG : Good V L) (hL : L.length ≤ 100) (hV : 1 ≤ V ∧ V ≤ 30) :
    Calls Try.prog 31 #[.pointer (some ⟨B, 0, none⟩)] w fun e w' => ∃ v b m, e = .returned v ∧ w'.ownsRow w.heap.size 3 1 v (mem (Rs 0 b) V).length ((mem (Rs 0 b) V).map natV) ∧ Lab L 0 b m ∧ Clo (Rs 0 b) L ∧ Kp No w w' := by
  obtain ⟨i0, hi0, hz0, hz1, hz2⟩ := info_parts infoI
  obtain ⟨h0, h1, _, _⟩ := cell_head hW.head
  go_enter Try.func31, Try.ntmps31
  go_wp2_with fail
  refine (reach_any base B V sl L 0 (-1) w hW (fun p hp => by have := hG p hp; exact ⟨this.1, this.2.1, this.2.2.1⟩) (by omega) (by omega) hL).mono ?_
  rintro e w1 ⟨b, g, rfl, hlb, hlab, hbv, hend, hk1⟩
  obtain ⟨m, hlab⟩ := hlab
  have hclo : Clo (Rs 0 b) L := by
    rcases hend with ⟨v, _, hv⟩ | h
    · omega
    · exact h.1
  have h0' := hk1.cell h0 (fun h => h)
  have HLB := Lib.hid hlb
  have HLAB := Lib.hid hlab
  have HCL := Lib.hid hclo
  have HK1 := Lib.hid hk1
  clear hlb hlab hclo hk1 hbv hend
  go_wp2_with fail
  go_loopw [4, 5] (fun q i wr => ∃ k : Nat, 1 ≤ k ∧ k ≤ V ∧ i = .int .i64 k ∧ wr.ownsRow w1.heap.size 3 1 q (mem (Rs 0 b) k).length ((mem (Rs 0 b) k).map natV) ∧ Kp No w1 wr) (fun _ i _ => V - (intOf i).toNat)
  case atStart =>
    have h1 : mem (Rs 0 b) 1 = [0] := by simp [mem, Rs]
    refine ⟨1, by omega, by omega, rfl, ?_, Kp.alloc _ _ _⟩
    rw [h1]
    exact own_one (Nat.le_refl _)
  case round =>
    obtain ⟨k, hk1, hk2, rfl, hown, hkp⟩ := hrel
    have h0r := hkp.cell h0' (fun h => h)
    obtain ⟨a, cap, rfl, _, _, _⟩ := own_form hown
    have HO := Lib.hid hown
    clear hown
    by_cases hlt : k < V
    · have hcl := lbl_cell (hkp.heap HLB.out (fun h => h)) (v := k) (by omega)
      have hml := mem_le (Rs 0 b) k
      cases hbk : b k with
      | none =>
        rw [hbk] at hcl
        replace hcl : wr.cell? ⟨g, k, none⟩ = some (.int .i64 0) := hcl
        have HS := Lib.hid (show mem (Rs 0 b) (k + 1) = mem (Rs 0 b) k by rw [mem_succ, if_neg]; rw [rs_iff, hbk]; simp; omega)
        clear hbk
        go_wp2_with fail
        go_roundw
        case rel => exact ⟨k + 1, by omega, by omega, by go_num, by rw [HS.out]; exact HO.out, hkp⟩
        case measure => simp [intOf]; omega
      | some s0 =>
        rw [hbk] at hcl
        have hc0 := code_ne s0
        have HS := Lib.hid (show mem (Rs 0 b) (k + 1) = mem (Rs 0 b) k ++ [k] by rw [mem_succ, if_pos]; rw [rs_iff, hbk]; simp)
        generalize hcc : code (some s0) = c0 at hcl hc0
        have hc1 : (c0 == 0) = false := by rw [beq_eq_false_iff_ne]; exact hc0
        have hc2 : (c0 != 0) = true := by rw [bne_iff_ne]; exact hc0
        clear hbk hcc hc0
        generalize mem (Rs 0 b) k = M at *
        go_wp2_with (at_builtin; refine stop_in ?_)
        refine stop_out ?_
        refine wpList_append_own_at _ rfl _ _ 23 rfl w1.heap.size 3 i0 (.int .i64 0) 1 8 Try.underlying23 hi0 hz0 hz1 hz2 rfl (by decide) (.slice a M.length cap) M.length (M.map natV) rfl (HO.out.alloc (.cells #[.int .i64 k] 3)) ⟨wr.heap.size, 0, none⟩ 1 1 [.int .i64 k] rfl rfl (cell_one_new wr _ _) (ints_oneCell .i64 [(k : Int)]) (by unfold maxLen; omega) (by omega) (by have := hkp.size; simp; omega) ?_
        intro v' w5 hown' hgrow hnil hat
        have hk5 : Kp No w1 w5 := hkp.trans ((Kp.alloc (fun g => w1.heap.size ≤ g) _ _).tr (Kp.grown hgrow fun g hg _ => (own_ge HO.out hg).1)) (fun g hg h => absurd h (Nat.not_le.2 hg))
        have HO5 := Lib.hid hown'
        have HK5 := Lib.hid hk5
        clear hown' hgrow hnil hat hk5
        go_wp2_with fail
        go_roundw
        case rel => exact ⟨k + 1, by omega, by omega, by go_num, by rw [HS.out, List.length_append, List.map_append]; exact HO5.out, HK5.out⟩
        case measure => simp [intOf]; omega
    · obtain rfl : k = V := by omega
      go_wp2_with fail
      go_ret
      exact ⟨_, b, m, rfl, own_mono HO.out HK1.out.size, HLAB.out, HCL.out, HK1.out.tr hkp⟩
end Go.Proofs.Ytjjecadfcndkaaa
