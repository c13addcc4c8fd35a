/- Chapter 14: pipes and webs in memory; walks of link and drain. -/
import Derived.Test.YtjjecadfcndkaaaProg
import Derived.Test.YtjjecadfcndkaaaLibRow
import Derived.Test.YtjjecadfcndkaaaLibQu
import Derived.Test.YtjjecadfcndkaaaNet
import Derived.KernelRfl
namespace Go.Proofs.Ytjjecadfcndkaaa
open Go.RowKit Go.Kq Go.Flow

def c5 (p : Pi) : List Value := [.int .i64 p.fr, .int .i64 p.to, .int .i64 p.mo, .int .i64 p.fl, .bool p.st]
theorem c5_len (p : Pi) : (c5 p).length = 5 := rfl
theorem info76 : (Try.prog.info? 76).map (fun i => (i.zero, i.size, i.bytes)) = some (some (.agg #[.int .i64 0, .int .i64 0, .int .i64 0, .int .i64 0, .bool false]), 5, 40) := by kernel_rfl
theorem info3 : (Try.prog.info? 3).map (fun i => (i.zero, i.size, i.bytes)) = some (some (.int .i64 0), 1, 8) := by kernel_rfl
/-- A web of pipes. -/
structure Web (w : World) (base B V : Nat) (sl : Value) (L : List Pi) : Prop where
  ge : base ≤ B
  head : w.heap[B]? = some (.cells #[.int .i64 V, sl] 74 (0, 0))
  row : w.ownsRow base 76 5 sl L.length (L.flatMap c5)
theorem Web.kp {S : Nat → Prop} {w w' : World} {base B V : Nat} {sl : Value} {L : List Pi} (h : Web w base B V sl L) (hk : Kp S w w') (hB : ¬ S B) (hS : ∀ g, sl.ownBlock = some g → ¬ S g) : Web w' base B V sl L :=
  ⟨h.ge, hk.heap h.head hB, hk.owns h.row hS⟩
theorem Web.no {w w' : World} {base B V : Nat} {sl : Value} {L : List Pi} (h : Web w base B V sl L) (hk : Kp No w w') : Web w' base B V sl L := h.kp hk (fun h => h) fun _ _ h => h
theorem Web.lt {w : World} {base B V : Nat} {sl : Value} {L : List Pi} (h : Web w base B V sl L) : B < w.heap.size := (Array.getElem?_eq_some_iff.1 h.head).1
theorem new5 (w : World) (p : Pi) : ∀ j u, (c5 p)[j]? = some u → (w.alloc (.cells #[.int .i64 p.fr, .int .i64 p.to, .int .i64 p.mo, .int .i64 p.fl, .bool p.st] 76)).cell? ((⟨w.heap.size, 0, none⟩ : Addr).add j) = some u := by
  intro j u hj
  unfold c5 at hj
  rw [add_at, Nat.zero_add]
  match j, hj with
  | 0, hj => simp at hj; subst hj; go_simp
  | 1, hj => simp at hj; subst hj; go_simp
  | 2, hj => simp at hj; subst hj; go_simp
  | 3, hj => simp at hj; subst hj; go_simp
  | 4, hj => simp at hj; subst hj; go_simp
theorem c5_one (p : Pi) : ∀ u ∈ c5 p, u.oneCell' = true := by
  intro u hu
  simp only [c5, List.mem_cons, List.not_mem_nil, or_false] at hu
  rcases hu with rfl | rfl | rfl | rfl | rfl <;> rfl
theorem cell_head {w : World} {B : Nat} {a b : Value} {t : TypeId} (h : w.heap[B]? = some (.cells #[a, b] t (0, 0))) : w.cell? ⟨B, 0, none⟩ = some a ∧ w.cell? ⟨B, 1, none⟩ = some b ∧ w.frozen? ⟨B, 0, none⟩ = false ∧ w.frozen? ⟨B, 1, none⟩ = false := by
  refine ⟨?_, ?_, ?_, ?_⟩
  · rw [cell_of_row w B 0 _ _ _ h]; rfl
  · rw [cell_of_row w B 1 _ _ _ h]; rfl
  · simp [World.frozen?, h]
  · simp [World.frozen?, h]

theorem head_set {w : World} {B : Nat} {a b u : Value} {t : TypeId} (h : w.heap[B]? = some (.cells #[a, b] t (0, 0))) : (w.setCell ⟨B, 1, none⟩ u).heap[B]? = some (.cells #[a, u] t (0, 0)) := by
  simp [World.setCell, Array.getElem?_modify, h]
theorem drain_any (base B V : Nat) (sl : Value) (L : List Pi) (w : World) (h : Web w base B V sl L) :
    Calls Try.prog 49 #[.pointer (some ⟨B, 0, none⟩)] w fun e w' => e = .returned (.int .i64 V) ∧ w = w' := by
  obtain ⟨h0, _, _, _⟩ := cell_head h.head
  go_enter Try.func49, Try.ntmps49
  go_wp2
  go_ret
  exact ⟨rfl, rfl⟩

set_option maxHeartbeats 1000000 in
theorem link_any (base B V : Nat) (sl : Value) (L : List Pi) (f t : Nat) (m : Int) (w : World) (h : Web w base B V sl L) (hl : L.length ≤ 100) (hbase : base ≤ w.heap.size) :
    Calls Try.prog 48 #[.pointer (some ⟨B, 0, none⟩), .int .i64 f, .int .i64 t, .int .i64 m] w fun e w' => (∃ v, e = .returned v) ∧ ∃ sl', Web w' base B V sl' (L ++ [⟨f, t, m, 0, false⟩]) ∧ Kp (fun k => base ≤ k) w w' := by
  obtain ⟨i0, hi0, hz0, hz1, hz2⟩ := info_parts info76
  obtain ⟨h0, h1, f0, f1⟩ := cell_head h.head
  obtain ⟨a, cap, rfl, hcap, hcm, hnn⟩ := own_form h.row
  have HW := Lib.hid h
  clear h hnn
  go_enter Try.func48, Try.ntmps48
  go_wp2_with (at_builtin; refine stop_in ?_)
  refine stop_out ?_
  refine wpList_append_own_at _ rfl _ _ 72 rfl base 76 i0 (.agg #[.int .i64 0, .int .i64 0, .int .i64 0, .int .i64 0, .bool false]) 5 40 Try.underlying72 hi0 hz0 hz1 hz2 rfl (by decide) (.slice a L.length cap) L.length (L.flatMap c5) rfl (HW.out.row.alloc _) ⟨w.heap.size, 0, none⟩ 1 1 (c5 ⟨f, t, m, 0, false⟩) rfl rfl (new5 w ⟨f, t, m, 0, false⟩) (c5_one _) (by unfold maxLen; omega) (by omega) (by simp; omega) ?_
  intro v' w1 hown' hgrow hnil hat
  have hb1 : some B ≠ (Value.slice a L.length cap).ownBlock := fun e => own_other HW.out.row HW.out.head (by decide) e.symm
  have hk1 : Kp (fun k => (Value.slice a L.length cap).ownBlock = some k) w w1 := (Kp.alloc _ _ _).tr (Kp.grown hgrow fun k h _ => h)
  have hhead := hk1.heap HW.out.head (fun e => hb1 e.symm)
  obtain ⟨g0, g1, g2, g3⟩ := cell_head hhead
  rw [← flat_snoc] at hown'
  have hne : v'.ownBlock ≠ some B := own_other hown' hhead (by decide)
  obtain ⟨a', cap', rfl, _, _, _⟩ := own_form hown'
  have HO := Lib.hid hown'
  have HH := Lib.hid hhead
  have HK := Lib.hid hk1
  have HN := Lib.hid hne
  clear hown' hgrow hnil hat hhead hk1 hb1 hne
  go_wp2_with fail
  go_end0
  have hlen : (L ++ [(⟨f, t, m, 0, false⟩ : Pi)]).length = L.length + 1 := by simp
  refine ⟨⟨_, rfl⟩, _, ⟨HW.out.ge, head_set HH.out, ?_⟩, ?_⟩
  · rw [hlen]
    exact (Kp.setCell (fun k => k = B) w1 ⟨B, 1, none⟩ _ fun _ => rfl).owns HO.out fun g hg e => HN.out (by rw [← e]; exact hg)
  · refine ((HK.out.mono fun k _ h => (own_ge HW.out.row h).1).tr (Kp.setCell _ _ _ _ fun _ => HW.out.ge))
end Go.Proofs.Ytjjecadfcndkaaa
