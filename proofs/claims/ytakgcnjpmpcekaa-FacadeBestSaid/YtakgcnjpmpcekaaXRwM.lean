/- Chapter 24: rows of numbers whose slices lie in a box that was made. -/
import Derived.Test.YtakgcnjpmpcekaaXOrB
namespace Go.Proofs.Ytakgcnjpmpcekaa
open Go.RowKit Go.Kq

structure RwM (base : Nat) (w : World) (g L : Nat) (Ls : List (List Int)) : Prop where
  hl : Ls.length = L
  hg : base ≤ g
  row : ∃ us : Array Value, w.heap[g]? = some (.cells us 22 (0, 0)) ∧ us.size = L ∧ (∀ (i : Nat) S, Ls[i]? = some S → ∃ v, us[i]? = some v ∧ OwI w base v S) ∧ ∀ (i j : Nat) u v b, us[i]? = some u → us[j]? = some v → u.ownBlock = some b → v.ownBlock = some b → i = j
section
variable {base g L : Nat} {w w' : World} {Ls : List (List Int)}
theorem own_int {v : Value} {S : List Int} (h : OwI w base v S) {b : Nat} (hb : v.ownBlock = some b) : ∃ cs m, w.heap[b]? = some (.cells cs 3 m) := by
  rcases h.2 with ⟨rfl, _⟩ | ⟨g, _, cur, rfl, _, hh, _⟩
  · cases hb
  · injection hb with hb
    subst hb
    exact ⟨_, _, hh⟩
theorem RwM.kp {S : Nat → Prop} (h : RwM base w g L Ls) (k : Kp S w w') (hS : ∀ b, S b → ∀ cs t m, w.heap[b]? = some (.cells cs t m) → t ≠ 3 ∧ t ≠ 22) : RwM base w' g L Ls := by
  obtain ⟨h1, h2, us, h3, h4, h5, h6⟩ := h
  refine ⟨h1, h2, us, k.heap h3 fun e => (hS g e _ _ _ h3).2 rfl, h4, fun i T hT => ?_, h6⟩
  obtain ⟨v, hv, ho⟩ := h5 i T hT
  refine ⟨v, hv, k.owns ho fun b hb e => ?_⟩
  obtain ⟨cs, m, hh⟩ := own_int ho hb
  exact (hS b e _ _ _ hh).1 rfl
theorem RwM.no (h : RwM base w g L Ls) (k : Kp No w w') : RwM base w' g L Ls := h.kp k fun _ e => e.elim
theorem RwM.cell (h : RwM base w g L Ls) {i : Nat} {S : List Int} (hS : Ls[i]? = some S) : ∃ v, w.cell? ⟨g, i, none⟩ = some v ∧ w.frozen? ⟨g, i, none⟩ = false ∧ OwI w base v S ∧ i < L ∧ g < w.heap.size := by
  obtain ⟨h1, h2, us, h3, h4, h5, h6⟩ := h
  obtain ⟨v, hv, ho⟩ := h5 i S hS
  exact ⟨v, by rw [cell_of_row _ _ _ _ _ _ h3, hv], by simp [World.frozen?, h3], ho, by rw [← h1]; exact (List.getElem?_eq_some_iff.1 hS).1, (Array.getElem?_eq_some_iff.1 h3).1⟩
/-- One row is another one. -/
theorem RwM.set (h : RwM base w g L Ls) {i : Nat} {S S' : List Int} {v v' : Value} (hS : Ls[i]? = some S) (hv : w.cell? ⟨g, i, none⟩ = some v) (k : Kp (fun b => v.ownBlock = some b) w w') (ho : OwI w' base v' S') (hb : v'.ownBlock = v.ownBlock ∨ ∀ b, v'.ownBlock = some b → w.heap.size ≤ b) :
    RwM base (w'.setCell ⟨g, i, none⟩ v') g L (Ls.set i S') ∧ Kp (Kq.One g) w' (w'.setCell ⟨g, i, none⟩ v') := by
  obtain ⟨h1, h2, us, h3, h4, h5, h6⟩ := h
  have K := kp_setOne w' g i v'
  obtain ⟨v0, hv0, ho0⟩ := h5 i S hS
  have e0 : v0 = v := by
    rw [cell_of_row _ _ _ _ _ _ h3, hv0] at hv
    injection hv
  subst e0
  have hg' : w'.heap[g]? = some (.cells us 22 (0, 0)) := k.heap h3 fun e => by
    obtain ⟨cs, m, hh⟩ := own_int ho0 e
    rw [h3] at hh
    injection hh with hh
    injection hh with _ hh
    exact absurd hh (by decide)
  have hne : ∀ {u : Value} {T : List Int}, OwI w' base u T → ∀ b, u.ownBlock = some b → ¬ Kq.One g b := fun hu b hb e => by
    have e : b = g := e
    subst e
    obtain ⟨cs, m, hh⟩ := own_int hu hb
    rw [hg'] at hh
    injection hh with hh
    injection hh with _ hh
    exact absurd hh (by decide)
  have hi : i < us.size := (Array.getElem?_eq_some_iff.1 hv0).1
  have hset : (w'.setCell ⟨g, i, none⟩ v').heap[g]? = some (.cells (us.setIfInBounds i v') 22 (0, 0)) := by simp [World.setCell, Array.getElem?_modify, hg']
  refine ⟨⟨by simpa using h1, h2, _, hset, by simpa using h4, fun j T hT => ?_, fun a c u x b ha hc hub hxb => ?_⟩, K⟩
  · by_cases e : i = j
    · subst e
      rw [List.getElem?_set_self (by rw [h1, ← h4]; exact hi)] at hT
      injection hT with hT
      subst hT
      exact ⟨v', by simp [hi], K.owns ho (hne ho)⟩
    · rw [List.getElem?_set_ne e] at hT
      obtain ⟨u, hu, hou⟩ := h5 j T hT
      have hou' : OwI w' base u T := k.owns hou fun b hb he => e (h6 i j v0 u b hv0 hu he hb)
      exact ⟨u, by rw [Array.getElem?_setIfInBounds_ne e]; exact hu, K.owns hou' (hne hou')⟩
  · have old : ∀ {q : Nat} {z : Value}, i ≠ q → (us.setIfInBounds i v')[q]? = some z → us[q]? = some z := fun hq hz => by rwa [Array.getElem?_setIfInBounds_ne hq] at hz
    have own : ∀ {z : Value}, (us.setIfInBounds i v')[i]? = some z → z = v' := fun hz => by
      simp [hi] at hz
      exact hz.symm
    have fresh : ∀ {q : Nat} {z : Value} {b : Nat}, i ≠ q → us[q]? = some z → z.ownBlock = some b → v'.ownBlock = some b → False := fun {q z b} hq hz hzb hvb => by
      have hqL : q < Ls.length := by rw [h1, ← h4]; exact (Array.getElem?_eq_some_iff.1 hz).1
      obtain ⟨z', hz', hoz⟩ := h5 q _ (List.getElem?_eq_getElem hqL)
      rw [hz] at hz'
      injection hz' with hz'
      subst hz'
      rcases hb with hb | hb
      · exact hq (h6 i q v0 z b hv0 hz (hb ▸ hvb) hzb)
      · have := hb b hvb
        have := (own_ge hoz hzb).2
        omega
    by_cases ea : i = a
    · subst ea
      by_cases ec : i = c
      · exact ec
      · obtain rfl := own ha
        exact (fresh ec (old ec hc) hxb hub).elim
    · by_cases ec : i = c
      · subst ec
        obtain rfl := own hc
        exact (fresh ea (old ea ha) hub hxb).elim
      · exact h6 a c u x b (old ea ha) (old ec hc) hub hxb
theorem RwM.made (w : World) (L : Nat) (b0 : Nat) (hb : b0 ≤ w.heap.size) : RwM b0 (w.alloc (.cells (Array.replicate L (.slice none 0 0)) 22)) w.heap.size L (List.replicate L []) := by
  refine ⟨by simp, hb, _, heap_alloc_new w _, by simp, fun i S hS => ?_, fun i j u v b hi _ hu _ => ?_⟩
  · have hi := (List.getElem?_eq_some_iff.1 hS).1
    rw [List.length_replicate] at hi
    rw [List.getElem?_replicate, if_pos hi] at hS
    injection hS with hS
    subst hS
    exact ⟨_, by simp [hi], World.ownsRow_nil _ _ _ _⟩
  · rw [Array.getElem?_replicate] at hi
    split at hi
    · injection hi with hi
      subst hi
      cases hu
    · cases hi
end
theorem infoSli : (Try.prog.info? 22).map (fun i => (i.zero, i.size, i.bytes)) = some (some (.slice none 0 0), 1, 24) := by kernel_rfl
theorem make_rows (m : Nat) (hm : m ≤ 100000) (w : World) : (Instr.makeSlice 32 (.int .i64 (m : Nat)) (.int .i64 (m : Nat))).run Try.prog w = .ok (.slice (some ⟨w.heap.size, 0, none⟩) m m) (w.alloc (.cells (Array.replicate m (.slice none 0 0)) 22)) := by
  obtain ⟨i0, hi, hz0, hz1, hz2⟩ := info_parts infoSli
  have := run_make_flat w (fun _ : Unit => [Value.slice none 0 0]) () _ _ i0 _ 1 24 m Try.underlying32 hi hz0 hz1 hz2 (by decide) rfl rfl (by omega) (by omega)
  rw [this]
  rw [List.flatMap_replicate]
  simp
end Go.Proofs.Ytakgcnjpmpcekaa
