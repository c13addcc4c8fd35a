/- Chapter 27: what has been done to pipes: how it lies in memory. -/
import Derived.Test.YtjbpdimepckmfaaXStP
import Derived.Test.YtjbpdimepckmfaaXCnt
import Derived.Test.YtjbpdimepckmfaaXLibHvM
namespace Go.Proofs.Ytjbpdimepckmfaa
open Go.RowKit Go.Kq

def eo (o : Option Nat) : Value := match o with | none => .pointer none | some g => .pointer (some ⟨g, 0, none⟩)
theorem ep_inj {a b : Pp} (h : ep a = ep b) : a = b := by
  obtain ⟨a1, a2⟩ := a
  obtain ⟨b1, b2⟩ := b
  simpa [ep] using h
theorem pipe_eq (w : World) (x y : Pp) : (Op.equal 39 (ep x) (ep y)).run Try.prog w = .ok (decide (x = y)) w := by
  obtain ⟨x1, x2⟩ := x
  obtain ⟨y1, y2⟩ := y
  have h := pipe_equal w x1 x2 y1 y2
  simp only [Op.equal, Op.maxDepth, ep]
  rw [h]
  by_cases h1 : x1 = y1 <;> by_cases h2 : x2 = y2 <;> simp [h1, h2]
theorem pipe_check (w : World) (em : Bool) (k : Pp) : (Instr.checkKey em 10000 39 (ep k)).run Try.prog w = .ok () w := by
  obtain ⟨x1, x2⟩ := k
  have a3 := Try.isAgg3
  have z3 := Try.sizeOf3
  have c := fun x => check_int 9998 w em x
  rw [show (10000 : Nat) = 9998 + 1 + 1 from rfl]
  unfold Instr.checkKey
  simp only [ep, Sem.run_bind, run_underlying Try.underlying39, Result.andThen_ok]
  go_simp
theorem pipeOk : KeyOk Try.prog 39 ep := aggKey_ok Try.underlying39 ep_inj pipe_check pipe_eq (fun k => by simp [ep, Instr.sameBits])
theorem zeroPtr (w : World) : (zeroValue 81).run Try.prog w = .ok (eo none) w := by kernel_rfl

/-- A block that holds what has been done to a pipe. -/
def BoxP (W : World) (g : Nat) (v : Pv) : Prop := W.heap[g]? = some (.cells v.cells.toArray 64 (0, 0))
/-- The map of what has been done, block B; the pipes' blocks lie at n₀ or beyond. -/
def StAt (W : World) (B n₀ : Nat) (ws : List Wk) : Prop := ∃ E : List (Pp × Option Nat), MapAt W B ep eo E ∧ (∀ p o, get1 E p = some o → ∃ g v, o = some g ∧ stOf ws p = some v ∧ n₀ ≤ g ∧ BoxP W g v) ∧ ∀ p, get1 E p = none → stOf ws p = none
/-- The same, the block of one pipe at hand. -/
def StX (W : World) (B n₀ : Nat) (ws : List Wk) (p : Pp) (g : Nat) (v : Pv) : Prop := ∃ E : List (Pp × Option Nat), MapAt W B ep eo E ∧ get1 E p = some (some g) ∧ v = (stOf ws p).getD (pv0 p) ∧ n₀ ≤ g ∧ BoxP W g v ∧
  (∀ q, q ≠ p → ∀ o, get1 E q = some o → ∃ g' u, o = some g' ∧ stOf ws q = some u ∧ n₀ ≤ g' ∧ g' ≠ g ∧ BoxP W g' u) ∧ ∀ q, q ≠ p → get1 E q = none → stOf ws q = none
theorem BoxP.at_ {W : World} {g : Nat} {v : Pv} (h : BoxP W g v) {j : Nat} {u : Value} (hj : v.cells[j]? = some u) : W.cell? ⟨g, j, none⟩ = some u ∧ W.frozen? ⟨g, j, none⟩ = false := by
  unfold BoxP at h
  refine ⟨?_, by simp [World.frozen?, h]⟩
  rw [cell_of_row _ _ _ _ _ _ h]
  simpa using hj
theorem BoxP.lt {W : World} {g : Nat} {v : Pv} (h : BoxP W g v) : g < W.heap.size := (Array.getElem?_eq_some_iff.1 h).1
theorem BoxP.uniq {W : World} {g : Nat} {u v : Pv} (h : BoxP W g u) (h2 : BoxP W g v) : u = v := by
  unfold BoxP at h h2
  rw [h] at h2
  injection h2 with h2
  injection h2 with h2
  refine Pv.cells_inj ?_
  simpa using congrArg Array.toList h2
theorem stAt_made (w : World) (n₀ : Nat) : StAt (w.alloc (.map #[] 0)) w.heap.size n₀ [] := ⟨[], MapAt.made w ep eo, fun p o h => (by cases h), fun p _ => rfl⟩
/-- It lies on where the map and blocks of cells do. -/
theorem StAt.on {W W' : World} {B n₀ : Nat} {ws : List Wk} (h : StAt W B n₀ ws) (hb : W'.heap[B]? = W.heap[B]?) (hc : ∀ (g : Nat) (cs : Array Value), W.heap[g]? = some (.cells cs 64 (0, 0)) → W'.heap[g]? = some (.cells cs 64 (0, 0))) : StAt W' B n₀ ws := by
  obtain ⟨E, hm, h1, h2⟩ := h
  refine ⟨E, hm.of_block hb, fun p o ho => ?_, h2⟩
  obtain ⟨g, v, h3, h4, h5, h6⟩ := h1 p o ho
  exact ⟨g, v, h3, h4, h5, hc _ _ h6⟩
theorem StAt.lt {W : World} {B n₀ : Nat} {ws : List Wk} (h : StAt W B n₀ ws) : B < W.heap.size := by
  obtain ⟨E, hm, _⟩ := h
  exact hm.lt
theorem StAt.kp {S : Nat → Prop} {W W' : World} {B n₀ : Nat} {ws : List Wk} (h : StAt W B n₀ ws) (k : Kp S W W') (hS : ∀ b, S b → b < n₀ ∧ b ≠ B) : StAt W' B n₀ ws := by
  obtain ⟨E, hm, h1, h2⟩ := h
  refine ⟨E, hm.of_block (k.block B hm.lt fun h => (hS B h).2 rfl), fun p o ho => ?_, h2⟩
  obtain ⟨g, v, h3, h4, h5, h6⟩ := h1 p o ho
  exact ⟨g, v, h3, h4, h5, k.heap h6 fun h => by have := (hS g h).1; omega⟩
theorem StAt.no {W W' : World} {B n₀ : Nat} {ws : List Wk} (h : StAt W B n₀ ws) (k : Kp No W W') : StAt W' B n₀ ws := h.kp k fun _ h => h.elim
/-- A pipe's block found. -/
theorem StX.found {W : World} {B n₀ : Nat} {ws : List Wk} {E : List (Pp × Option Nat)} {p : Pp} {o : Option Nat} (hm : MapAt W B ep eo E) (h1 : ∀ p o, get1 E p = some o → ∃ g v, o = some g ∧ stOf ws p = some v ∧ n₀ ≤ g ∧ BoxP W g v) (h2 : ∀ p, get1 E p = none → stOf ws p = none) (hg : get1 E p = some o) :
    ∃ g v, o = some g ∧ StX W B n₀ ws p g v := by
  obtain ⟨g, v, rfl, h3, h4, h5⟩ := h1 p o hg
  refine ⟨g, v, rfl, E, hm, hg, by rw [h3]; rfl, h4, h5, fun q hq o ho => ?_, fun q _ => h2 q⟩
  obtain ⟨g', u, rfl, h6, h7, h8⟩ := h1 q o ho
  refine ⟨g', u, rfl, h6, h7, fun e => hq ?_, h8⟩
  subst e
  have := h8.uniq h5
  subst this
  rw [← stOf_p h6, stOf_p h3]
/-- A pipe's block made and put into the map. -/
theorem StX.fresh {W W1 W2 : World} {B n₀ : Nat} {ws : List Wk} {E : List (Pp × Option Nat)} {p : Pp} (hn : n₀ ≤ W.heap.size) (hm : MapAt W B ep eo E) (h1 : ∀ p o, get1 E p = some o → ∃ g v, o = some g ∧ stOf ws p = some v ∧ n₀ ≤ g ∧ BoxP W g v) (h2 : ∀ p, get1 E p = none → stOf ws p = none) (hg : get1 E p = none)
    (e1 : W1 = W.alloc (.cells (pv0 p).cells.toArray 64)) (hm2 : MapAt W2 B ep eo (ins p (some W.heap.size) E)) (hg2 : W1.grownBy W2 (some B)) : StX W2 B n₀ ws p W.heap.size (pv0 p) := by
  have hk1 : Kp No W W1 := by rw [e1]; exact Kp.alloc _ _ _
  have hk2 : Kp (Kq.One B) W1 W2 := Kp.grown hg2 fun k hk _ => by injection hk with hk; exact hk.symm
  have hB := hm.lt
  have key : ∀ (g : Nat) (u : Pv), BoxP W g u → BoxP W2 g u := fun g u h => hk2.heap (hk1.heap h id) fun e => by
    have e : g = B := e
    subst e
    obtain ⟨es, c, hmm⟩ := hm
    have h3 := hmm.at_
    unfold BoxP at h
    rw [h] at h3
    cases h3
  have hnew : BoxP W2 W.heap.size (pv0 p) := hk2.heap (by rw [e1]; exact heap_alloc_new _ _) fun e => by have e : W.heap.size = B := e; omega
  refine ⟨_, hm2, by rw [get1_ins, if_pos rfl], by rw [h2 p hg]; rfl, hn, hnew, fun q hq o ho => ?_, fun q hq ho => ?_⟩
  · rw [get1_ins, if_neg (fun e => hq e.symm)] at ho
    obtain ⟨g', u, rfl, h6, h7, h8⟩ := h1 q o ho
    exact ⟨g', u, rfl, h6, h7, fun e => by have := h8.lt; omega, key _ _ h8⟩
  · rw [get1_ins, if_neg (fun e => hq e.symm)] at ho
    exact h2 q ho
theorem StX.box {W : World} {B n₀ : Nat} {ws : List Wk} {p : Pp} {g : Nat} {v : Pv} (h : StX W B n₀ ws p g v) : BoxP W g v := by
  obtain ⟨_, _, _, _, _, h, _⟩ := h
  exact h
theorem StX.ge {W : World} {B n₀ : Nat} {ws : List Wk} {p : Pp} {g : Nat} {v : Pv} (h : StX W B n₀ ws p g v) : n₀ ≤ g := by
  obtain ⟨_, _, _, _, h, _⟩ := h
  exact h
/-- A work done to the pipe at hand. -/
theorem StX.fin {W W' : World} {B n₀ : Nat} {ws : List Wk} {x : Wk} {g : Nat} {v : Pv} (h : StX W B n₀ ws x.pp g v) (k : Kp (Kq.One g) W W') (hb : BoxP W' g (stepP v x)) : StAt W' B n₀ (ws ++ [x]) := by
  obtain ⟨E, hm, h1, h2, h3, h4, h5, h6⟩ := h
  have hgB : B ≠ g := fun e => by
    subst e
    obtain ⟨es, c, hmm⟩ := hm
    have h3 := hmm.at_
    unfold BoxP at h4
    rw [h4] at h3
    cases h3
  refine ⟨E, hm.of_block (k.block B hm.lt hgB), fun q o ho => ?_, fun q hq => ?_⟩
  · rw [stOf_snoc]
    by_cases e : x.pp = q
    · subst e
      rw [h1] at ho
      cases ho
      exact ⟨g, _, rfl, by rw [if_pos rfl, ← h2], h3, hb⟩
    · obtain ⟨g', u, rfl, h7, h8, h9, h10⟩ := h5 q (fun e' => e e'.symm) o ho
      exact ⟨g', u, rfl, by rw [if_neg e]; exact h7, h8, k.heap h10 h9⟩
  · rw [stOf_snoc]
    by_cases e : x.pp = q
    · subst e
      rw [h1] at hq
      cases hq
    · rw [if_neg e]
      exact h6 q (fun e' => e e'.symm) hq
end Go.Proofs.Ytjbpdimepckmfaa
