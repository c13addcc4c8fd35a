/- Chapter 33: the memory of Route's search: what stays, what it captures. -/
import Derived.Test.YtfflhlmnfhfcgaaXRtE
namespace Go.Proofs.Ytfflhlmnfhfcgaa
open Go.RowKit Go.Kq

/-- The choices for one division, and where they lie. -/
structure Rw where
  a : Option Addr
  cap : Nat
  chs : List Ch
def Rw.sl (r : Rw) : Value := .slice r.a r.chs.length r.cap
def Rw.cs (r : Rw) : List Cc := r.chs.map Ch.c
/-- What the search reads alone. -/
structure Fix (q o B0 : Nat) (aA : Option Addr) (cA : Nat) (rws : List Rw) (w : World) : Prop where
  qo : q < o
  box : w.heap[q]? = some (.cells #[.slice aA rws.length cA] 71 (0, 0))
  all : w.ownsRow B0 72 1 (.slice aA rws.length cA) rws.length (rws.map Rw.sl)
  allB : ∀ g, (Value.slice aA rws.length cA).ownBlock = some g → g < o
  row : ∀ r ∈ rws, w.ownsRow B0 76 3 r.sl r.chs.length (r.chs.flatMap Ch.cells) ∧ ∀ g, r.sl.ownBlock = some g → g < o
  stop : ∀ r ∈ rws, ∀ x ∈ r.chs, x.own w B0 ∧ ∀ g, x.sl.ownBlock = some g → g < o
theorem Fix.kp {q o B0 : Nat} {aA : Option Addr} {cA : Nat} {rws : List Rw} {w w' : World} {S : Nat → Prop} (h : Fix q o B0 aA cA rws w) (hk : Kp S w w') (hS : ∀ k, S k → o ≤ k) : Fix q o B0 aA cA rws w' := by
  have no : ∀ k, k < o → ¬ S k := fun k hk hs => by have := hS k hs; omega
  exact ⟨h.qo, hk.heap h.box (no _ h.qo), hk.owns h.all fun g hg => no g (h.allB g hg), h.allB, fun r hr => ⟨hk.owns (h.row r hr).1 fun g hg => no g ((h.row r hr).2 g hg), (h.row r hr).2⟩, fun r hr x hx => ⟨hk.owns (h.stop r hr x hx).1 fun g hg => no g ((h.stop r hr x hx).2 g hg), (h.stop r hr x hx).2⟩⟩
def tryV (q o : Nat) : Value := .func (.func 41) #[] #[.pointer (some ⟨o + 1, 0, none⟩), .pointer (some ⟨q, 0, none⟩), .pointer (some ⟨o, 0, none⟩), .pointer (some ⟨o + 1 + 1, 0, none⟩)]
/-- What the search has captured. -/
structure RS (q o B0 : Nat) (aA : Option Addr) (cA : Nat) (fv : Value) (rws : List Rw) (L : List Ch) (s : Rs) (w : World) : Prop where
  fix : Fix q o B0 aA cA rws w
  size : o + 3 ≤ w.heap.size
  out : ∃ vT vS, w.heap[o]? = some (.cells #[fv, vT, vS, .int .i64 s.cost] 51 (0, 0)) ∧ w.ownsRow (o + 3) 3 1 vT s.to.length (s.to.map (Value.int .i64)) ∧ w.ownsRow (o + 3) 3 1 vS s.stops.length (s.stops.map natV)
  lst : ∃ vL, w.heap[o + 1]? = some (.cells #[vL] 72 (0, 0)) ∧ w.ownsRow (o + 3) 76 3 vL L.length (L.flatMap Ch.cells)
  tr : w.heap[o + 1 + 1]? = some (.cells #[tryV q o] 74 (0, 0))
section
variable {q o B0 : Nat} {aA : Option Addr} {cA : Nat} {fv : Value} {rws : List Rw} {L : List Ch} {s : Rs} {w w' : World}
theorem RS.no (h : RS q o B0 aA cA fv rws L s w) (hk : Kp No w w') : RS q o B0 aA cA fv rws L s w' := by
  obtain ⟨vT, vS, a1, a2, a3⟩ := h.out
  obtain ⟨vL, b1, b2⟩ := h.lst
  have no : ∀ {v : Value} {g : Nat}, v.ownBlock = some g → ¬ No g := fun _ x => x
  exact ⟨h.fix.kp hk fun _ x => x.elim, Nat.le_trans h.size hk.size, ⟨vT, vS, hk.heap a1 id, hk.owns a2 fun _ x => no x, hk.owns a3 fun _ x => no x⟩, ⟨vL, hk.heap b1 id, hk.owns b2 fun _ x => no x⟩, hk.heap h.tr id⟩
/-- Only the list has turned. -/
theorem RS.list {S : Nat → Prop} {L' : List Ch} {vL' : Value} (h : RS q o B0 aA cA fv rws L s w) (hk : Kp S w w') (hS : ∀ k, S k → k = o + 1 ∨ ∃ vL, w.heap[o + 1]? = some (.cells #[vL] 72 (0, 0)) ∧ w.ownsRow (o + 3) 76 3 vL L.length (L.flatMap Ch.cells) ∧ vL.ownBlock = some k)
    (hl : w'.heap[o + 1]? = some (.cells #[vL'] 72 (0, 0))) (ho : w'.ownsRow (o + 3) 76 3 vL' L'.length (L'.flatMap Ch.cells)) : RS q o B0 aA cA fv rws L' s w' := by
  obtain ⟨vT, vS, a1, a2, a3⟩ := h.out
  have hS' : ∀ k, S k → k = o + 1 ∨ (o + 3 ≤ k ∧ ∃ vL, w.ownsRow (o + 3) 76 3 vL L.length (L.flatMap Ch.cells) ∧ vL.ownBlock = some k) := fun k hk => by
    rcases hS k hk with h | ⟨vL, _, h1, h2⟩
    · exact .inl h
    · exact .inr ⟨(Go.Kq.own_ge h1 h2).1, vL, h1, h2⟩
  have no : ∀ k, (k = o ∨ k = o + 2) → ¬ S k := fun k hk hs => by rcases hS' k hs with h | ⟨h, _⟩ <;> omega
  have no3 : ∀ {v : Value} {n : Nat} {xs : List Value}, w.ownsRow (o + 3) 3 1 v n xs → ∀ g, v.ownBlock = some g → ¬ S g := fun hv g hg hs => by
    rcases hS' g hs with h | ⟨_, vL, h1, h2⟩
    · have := (Go.Kq.own_ge hv hg).1
      omega
    · exact Go.Kq.own_apart h1 hv (by decide) h2 hg
  refine ⟨h.fix.kp hk fun k hs => ?_, Nat.le_trans h.size hk.size, ⟨vT, vS, hk.heap a1 (no _ (.inl rfl)), hk.owns a2 (no3 a2), hk.owns a3 (no3 a3)⟩, ⟨vL', hl, ho⟩, hk.heap h.tr (no _ (.inr rfl))⟩
  rcases hS' k hs with h | ⟨h, _⟩ <;> omega
/-- Only what has been found has turned. -/
theorem RS.found {S : Nat → Prop} {s' : Rs} (h : RS q o B0 aA cA fv rws L s w) (hk : Kp S w w') (hS : ∀ k, k < w.heap.size → S k → k = o) {vT vS : Value}
    (h1 : w'.heap[o]? = some (.cells #[fv, vT, vS, .int .i64 s'.cost] 51 (0, 0))) (h2 : w'.ownsRow (o + 3) 3 1 vT s'.to.length (s'.to.map (Value.int .i64))) (h3 : w'.ownsRow (o + 3) 3 1 vS s'.stops.length (s'.stops.map natV)) : RS q o B0 aA cA fv rws L s' w' := by
  obtain ⟨vL, b1, b2⟩ := h.lst
  have hk' : Kp (fun k => k = o) w w' := hk.mono hS
  refine ⟨h.fix.kp hk' fun k hs => ?_, Nat.le_trans h.size hk.size, ⟨vT, vS, h1, h2, h3⟩, ⟨vL, hk'.heap b1 (by omega), hk'.owns b2 fun g hg hs => ?_⟩, hk'.heap h.tr (by omega)⟩
  · have hs : k = o := hs
    omega
  · have hs : g = o := hs
    have := (Go.Kq.own_ge b2 hg).1
    omega
end
theorem one_kp {b : Nat} (w : World) (v : Value) : Kp (Kq.One b) w (w.setCell ⟨b, 0, none⟩ v) := kp_setOne _ _ _ _
theorem heap_set0 {w : World} {b : Nat} {u v : Value} {t : TypeId} (h : w.heap[b]? = some (.cells #[u] t (0, 0))) : (w.setCell ⟨b, 0, none⟩ v).heap[b]? = some (.cells #[v] t (0, 0)) := by
  simp [World.setCell, Array.getElem?_modify, h]
section
variable {q o B0 : Nat} {aA : Option Addr} {cA : Nat} {fv : Value} {rws : List Rw} {L : List Ch} {s : Rs} {w w3 : World}
/-- A choice is laid onto the list. -/
theorem RS.push {x : Ch} {vL v' : Value} {ob : Obj} (h : RS q o B0 aA cA fv rws L s w) (h1 : w.heap[o + 1]? = some (.cells #[vL] 72 (0, 0))) (h2 : w.ownsRow (o + 3) 76 3 vL L.length (L.flatMap Ch.cells))
    (hown : w3.ownsRow (o + 3) 76 3 v' (L.length + 1) (L.flatMap Ch.cells ++ x.cells)) (hg : (w.alloc ob).grownBy w3 vL.ownBlock) :
    RS q o B0 aA cA fv rws (L ++ [x]) s (w3.setCell ⟨o + 1, 0, none⟩ v') ∧ Kp (fun k => o ≤ k) w (w3.setCell ⟨o + 1, 0, none⟩ v') := by
  have k1 : Kp (fun k => vL.ownBlock = some k) w w3 := (Kp.alloc _ _ _).tr (Kp.grown hg fun k hk _ => hk)
  have hne : vL.ownBlock ≠ some (o + 1) := fun e => by have := (Go.Kq.own_ge h2 e).1; omega
  have e1 := k1.heap h1 hne
  have k2 : Kp (fun k => k = o + 1 ∨ vL.ownBlock = some k) w (w3.setCell ⟨o + 1, 0, none⟩ v') := (k1.mono fun _ _ h => .inr h).trans (one_kp w3 v') fun k _ hk => .inl hk
  refine ⟨h.list k2 (fun k hk => hk.imp id fun hk => ⟨vL, h1, h2, hk⟩) (heap_set0 e1) ?_, k2.mono fun k _ hk => ?_⟩
  · rw [Go.Kq.flat_snoc, List.length_append]
    exact (one_kp w3 v').owns hown fun g hg e => by have e : g = o + 1 := e; have := (Go.Kq.own_ge hown hg).1; omega
  · rcases hk with hk | hk
    · omega
    · have := (Go.Kq.own_ge h2 hk).1
      omega
/-- The last choice is taken off the list. -/
theorem RS.pop {x : Ch} {al : Option Addr} {cl : Nat} (h : RS q o B0 aA cA fv rws (L ++ [x]) s w) (h1 : w.heap[o + 1]? = some (.cells #[.slice al (L.length + 1) cl] 72 (0, 0))) (h2 : w.ownsRow (o + 3) 76 3 (.slice al (L.length + 1) cl) (L.length + 1) ((L ++ [x]).flatMap Ch.cells)) :
    RS q o B0 aA cA fv rws L s (w.setCell ⟨o + 1, 0, none⟩ (.slice al L.length cl)) ∧ Kp (fun k => o ≤ k) w (w.setCell ⟨o + 1, 0, none⟩ (.slice al L.length cl)) := by
  have hk := one_kp (b := o + 1) w (.slice al L.length cl)
  have hp : w.ownsRow (o + 3) 76 3 (.slice al L.length cl) L.length (L.flatMap Ch.cells) := by
    rcases h2.2 with ⟨h0, _⟩ | ⟨g, cap, cur, hv, rest⟩
    · cases h0
    · cases hv
      rw [Go.Kq.flat_snoc] at h2
      have hl : (L.flatMap Ch.cells).length = L.length * 3 := Go.Kq.flat_len ch_len L
      obtain ⟨hh, h5, h6, h7, h8, h9⟩ := rest
      refine ⟨hl, .inr ⟨g, cl, cur, rfl, hh, h5, by omega, h7, h8, ?_⟩⟩
      have := congrArg (List.take (L.length * 3)) h9
      rw [List.take_take, Nat.min_eq_left (by omega), Go.Kq.flat_snoc, List.take_left' hl] at this
      exact this
  refine ⟨h.list hk (fun k hk => .inl hk) (heap_set0 h1) (hk.owns hp fun g hg e => by have e : g = o + 1 := e; have := (Go.Kq.own_ge hp hg).1; omega), hk.mono fun k _ hk => by have hk : k = o + 1 := hk; omega⟩
end
end Go.Proofs.Ytfflhlmnfhfcgaa
