/- Chapter 13: maps from pipes to rows. -/
import Derived.Test.YtlieijnhaolnhaaChk
import Derived.Test.YtlieijnhaolnhaaLibMap
namespace Go.Proofs.Ytlieijnhaolnhaa
open Go.RowKit Go.Kq

theorem ep_inj {a b : Pp} (h : ep a = ep b) : a = b := by
  obtain ⟨a1, a2⟩ := a
  obtain ⟨b1, b2⟩ := b
  simpa [ep] using h
theorem pkey_equal (w : World) (x y : Pp) : (Op.equal 51 (ep x) (ep y)).run Try.prog w = .ok (decide (x = y)) w := by
  have hS : Try.prog.underlying 51 = some (.struct (Try.prog.fieldsOf 51)) := by kernel_rfl
  have hp : Try.prog.stoodInHeld 51 = false := by kernel_rfl
  have u3 := Try.underlying3
  obtain ⟨x1, x2⟩ := x
  obtain ⟨y1, y2⟩ := y
  simp only [Op.equal, Op.maxDepth, ep]
  rw [show (10000 : Nat) = 9999 + 1 from rfl, run_equalIn_agg w 9999 51 _ _ hS hp]
  simp only [Program.fieldsOf, Try.underlying51]
  go_simp
  by_cases h1 : x1 = y1 <;> by_cases h2 : x2 = y2 <;> simp [h1, h2]
theorem pcheck_int (n : Nat) (w : World) (em : Bool) (x : Int) : (Instr.checkKey em (n + 1) 3 (.int .i64 x)).run Try.prog w = .ok () w := by
  simp [Instr.checkKey, run_underlying Try.underlying3]
theorem pkey_check (w : World) (em : Bool) (k : Pp) : (Instr.checkKey em 10000 51 (ep k)).run Try.prog w = .ok () w := by
  obtain ⟨x1, x2⟩ := k
  have a3 := Try.isAgg3
  have z3 := Try.sizeOf3
  have c := fun x => pcheck_int 9998 w em x
  rw [show (10000 : Nat) = 9998 + 1 + 1 from rfl]
  unfold Instr.checkKey
  simp only [ep, Sem.run_bind, run_underlying Try.underlying51, Result.andThen_ok]
  go_simp
theorem pkeyOk : KeyOk Try.prog 51 ep := aggKey_ok Try.underlying51 ep_inj pkey_check pkey_equal (fun k => by simp [ep, Instr.sameBits])
def row0 : Rw := ⟨0, 0, 0, 0, 0⟩
theorem zeroR (w : World) : (zeroValue 53).run Try.prog w = .ok (rwV row0) w := Try.zeroValue53 w
/-- Rows by their pipes. -/
def bookL (l : List Rw) : List (Pp × Rw) := l.foldl (fun E x => ins x.pp x E) []
theorem bookL_snoc (l : List Rw) (x : Rw) : bookL (l ++ [x]) = ins x.pp x (bookL l) := by
  unfold bookL
  rw [List.foldl_append]
  rfl
theorem plt_trans {a b c : Pp} (h1 : pltB a b = true) (h2 : pltB b c = true) : pltB a c = true := by
  unfold pltB at *
  simp only [decide_eq_true_eq] at *
  omega
theorem plt_irr (a : Pp) : pltB a a = false := by
  unfold pltB
  simp
theorem ris_pair : ∀ l : List Pp, risB l = true → l.Pairwise fun a b => pltB a b = true
  | [], _ => List.Pairwise.nil
  | [x], _ => List.pairwise_singleton _ _
  | x :: y :: l, h => by
    simp only [risB, Bool.and_eq_true] at h
    have ih := ris_pair (y :: l) h.2
    refine List.pairwise_cons.2 ⟨fun z hz => ?_, ih⟩
    rcases List.mem_cons.1 hz with rfl | hz
    · exact h.1
    · exact plt_trans h.1 ((List.pairwise_cons.1 ih).1 z hz)
theorem get_book (p : Pp) : ∀ (l : List Rw) (E : List (Pp × Rw)), get1 (l.foldl (fun E x => ins x.pp x E) E) p = match l.reverse.find? (fun x => decide (x.pp = p)) with | some x => some x | none => get1 E p
  | [], E => by simp
  | x :: l, E => by
    rw [List.foldl_cons, get_book p l, List.reverse_cons, List.find?_append]
    cases h : l.reverse.find? (fun x => decide (x.pp = p)) with
    | some y => simp
    | none =>
      by_cases e : x.pp = p
      · simp [get1_ins, e]
      · simp [get1_ins, e]
/-- What a pipe's row is. -/
def rowOf (l : List Rw) (p : Pp) : Option Rw := l.find? fun x => decide (x.pp = p)
theorem rowOf_some {l : List Rw} {p : Pp} {x : Rw} (h : rowOf l p = some x) : x ∈ l ∧ x.pp = p := by
  unfold rowOf at h
  exact ⟨List.mem_of_find?_eq_some h, by simpa using List.find?_some h⟩
theorem rowOf_none {l : List Rw} {p : Pp} (h : rowOf l p = none) : ∀ x ∈ l, x.pp ≠ p := by
  unfold rowOf at h
  rw [List.find?_eq_none] at h
  intro x hx
  simpa using h x hx
theorem pp_inj {l : List Rw} (hr : risB (l.map Rw.pp) = true) {x y : Rw} (hx : x ∈ l) (hy : y ∈ l) (h : x.pp = y.pp) : x = y := by
  have hp := ris_pair _ hr
  rw [List.pairwise_map, List.pairwise_iff_getElem] at hp
  obtain ⟨i, hi, rfl⟩ := List.mem_iff_getElem.1 hx
  obtain ⟨j, hj, rfl⟩ := List.mem_iff_getElem.1 hy
  rcases Nat.lt_trichotomy i j with h1 | h1 | h1
  · have := hp i j hi hj h1
    rw [h, plt_irr] at this
    cases this
  · subst h1
    rfl
  · have := hp j i hj hi h1
    rw [h, plt_irr] at this
    cases this
theorem rowOf_mem {l : List Rw} (hr : risB (l.map Rw.pp) = true) {x : Rw} (hx : x ∈ l) : rowOf l x.pp = some x := by
  cases h : rowOf l x.pp with
  | none => exact absurd rfl (rowOf_none h x hx)
  | some y =>
    obtain ⟨h1, h2⟩ := rowOf_some h
    rw [pp_inj hr h1 hx h2]
theorem get_bookL {l : List Rw} (hr : risB (l.map Rw.pp) = true) (p : Pp) : get1 (bookL l) p = rowOf l p := by
  unfold bookL
  rw [get_book]
  cases h : l.reverse.find? (fun x => decide (x.pp = p)) with
  | some y =>
    have h1 := List.mem_of_find?_eq_some h
    have h2 := List.find?_some h
    simp only [decide_eq_true_eq] at h2
    subst h2
    exact (rowOf_mem hr (List.mem_reverse.1 h1)).symm
  | none =>
    have h1 : rowOf l p = none := by
      unfold rowOf
      rw [List.find?_eq_none] at h ⊢
      intro x hx
      exact h x (List.mem_reverse.2 hx)
    rw [h1]
    rfl
end Go.Proofs.Ytlieijnhaolnhaa
