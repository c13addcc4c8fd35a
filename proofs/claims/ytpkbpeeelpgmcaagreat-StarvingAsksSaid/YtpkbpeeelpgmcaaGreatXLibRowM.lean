/- What a call leaves as it was: 'Kp S w w'': of what was there only the blocks S may have turned. No program in sight. · An append onto a row of the call's own of whatever slice, nil too. No program in sight. · Rows: what a slice that the call made, or that came in, reads as: plain facts. No program in sight. -/
import Derived.WalkKit
import Derived.Lib.Hide
import Derived.BigQuiet
import Derived.Deep.QuietTactic
import Derived.Maps.AppendAt
import Derived.OwnWalk
import Derived.Laws.OwnMore
import Derived.Laws.MakeOwn
namespace Go.Kq
open Go.RowKit

/-- A walk stops where its goal stands behind this name. -/
def Stop (p : Prop) : Prop := p
theorem stop_in {p : Prop} (h : Stop p) : p := h
theorem stop_out {p : Prop} (h : p) : Stop p := h

structure Kp (S : Nat → Prop) (w w' : World) : Prop where
  os : w'.os = w.os
  tape : w'.tape = w.tape
  output : w'.output = w.output
  size : w.heap.size ≤ w'.heap.size
  block : ∀ k, k < w.heap.size → ¬ S k → w'.heap[k]? = w.heap[k]?

def No : Nat → Prop := fun _ => False
def One (b : Nat) : Nat → Prop := fun k => k = b

section
variable {S T : Nat → Prop} {w w' w'' : World}
theorem Kp.refl (S : Nat → Prop) (w : World) : Kp S w w := ⟨rfl, rfl, rfl, Nat.le_refl _, fun _ _ _ => rfl⟩
theorem Kp.trans (h : Kp S w w') (h' : Kp T w' w'') (hT : ∀ k, k < w.heap.size → T k → S k) : Kp S w w'' :=
  ⟨h'.os.trans h.os, h'.tape.trans h.tape, h'.output.trans h.output, Nat.le_trans h.size h'.size, fun k hk hS => (h'.block k (Nat.lt_of_lt_of_le hk h.size) (fun t => hS (hT k hk t))).trans (h.block k hk hS)⟩
theorem Kp.tr (h : Kp S w w') (h' : Kp S w' w'') : Kp S w w'' := h.trans h' fun _ _ t => t
theorem Kp.no (h : Kp S w w') (h' : Kp No w' w'') : Kp S w w'' := h.trans h' fun _ _ t => t.elim
theorem Kp.mono (h : Kp S w w') (hT : ∀ k, k < w.heap.size → S k → T k) : Kp T w w' := ⟨h.os, h.tape, h.output, h.size, fun k hk hS => h.block k hk fun s => hS (hT k hk s)⟩
theorem Kp.of_no (h : Kp No w w') : Kp S w w' := h.mono fun _ _ t => t.elim
theorem Kp.grown {row : Option Nat} (h : w.grownBy w' row) (hr : ∀ k, row = some k → k < w.heap.size → S k) : Kp S w w' :=
  ⟨h.os, h.tape, h.output, h.size, fun k hk hS => h.block k hk fun e => hS (hr k e.symm hk)⟩
theorem Kp.grown_none (h : w.grownBy w' none) : Kp S w w' := Kp.grown h (by simp)
theorem Kp.below (h : Below w.heap.size w w') : Kp S w w' := ⟨h.os, h.tape, h.output, h.size, fun k hk _ => h.block k hk⟩
theorem Kp.toBelow (h : Kp No w w') : Below w.heap.size w w' := ⟨h.os, h.tape, h.output, h.size, fun k hk => h.block k hk id⟩
theorem Kp.toBelowB {B : Nat} (h : Kp S w w') (hB : B ≤ w.heap.size) (hS : ∀ k, k < B → ¬ S k) : Below B w w' := ⟨h.os, h.tape, h.output, h.size, fun k hk => h.block k (by omega) (hS k hk)⟩
theorem Kp.toGrown {b : Nat} (h : Kp (One b) w w') : w.grownBy w' (some b) := ⟨h.os, h.tape, h.output, h.size, fun k hk hne => h.block k hk fun e => hne (by rw [e])⟩
theorem Kp.toGrownNo (h : Kp No w w') (row : Option Nat) : w.grownBy w' row := ⟨h.os, h.tape, h.output, h.size, fun k hk _ => h.block k hk id⟩
theorem Kp.alloc (S : Nat → Prop) (w : World) (o : Obj) : Kp S w (w.alloc o) := Kp.grown_none (World.grownBy_alloc w o none)
theorem Kp.drew (S : Nat → Prop) (w : World) : Kp S w w.drew := ⟨rfl, rfl, rfl, Nat.le_refl _, fun _ _ _ => rfl⟩
theorem Kp.drewN (S : Nat → Prop) (w : World) (n : Nat) : Kp S w (w.drewN n) := ⟨rfl, rfl, rfl, Nat.le_refl _, fun _ _ _ => rfl⟩
theorem Kp.setCell (S : Nat → Prop) (w : World) (a : Addr) (v : Value) (h : a.block < w.heap.size → S a.block) : Kp S w (w.setCell a v) :=
  ⟨rfl, rfl, rfl, by simp, fun k hk hS => by
    have hne : a.block ≠ k := fun e => hS (e ▸ h (e ▸ hk))
    simp [World.setCell, Array.getElem?_modify, hne]⟩
theorem Kp.cell (h : Kp S w w') {a : Addr} {v : Value} (hc : w.cell? a = some v) (hS : ¬ S a.block) : w'.cell? a = some v :=
  (World.cell?_of_block (h.block a.block (World.block_lt_of_cell? w _ hc) hS)).trans hc
theorem Kp.frozen (h : Kp S w w') {a : Addr} (hb : a.block < w.heap.size) (hS : ¬ S a.block) : w'.frozen? a = w.frozen? a :=
  World.frozen?_of_block (h.block a.block hb hS)
theorem Kp.heap (h : Kp S w w') {b : Nat} {o : Obj} (hb : w.heap[b]? = some o) (hS : ¬ S b) : w'.heap[b]? = some o :=
  (h.block b (Array.getElem?_eq_some_iff.1 hb).1 hS).trans hb
theorem Kp.owns (h : Kp S w w') {base size n : Nat} {e : TypeId} {v : Value} {xs : List Value} (ho : w.ownsRow base e size v n xs) (hS : ∀ g, v.ownBlock = some g → ¬ S g) : w'.ownsRow base e size v n xs := by
  rcases ho with ⟨hl, h0 | ⟨g, cap, cur, hv, hb, hh, rest⟩⟩
  · exact ⟨hl, .inl h0⟩
  · exact ⟨hl, .inr ⟨g, cap, cur, hv, hb, h.heap hh (hS g (by rw [hv]; rfl)), rest⟩⟩
end

theorem ret_i64 {a b : Int} (h : a = b) : Ending.returned (.int .i64 a) = .returned (.int .i64 b) := by rw [h]
theorem ret_bool {a b : Bool} (h : a = b) : Ending.returned (.bool a) = .returned (.bool b) := by rw [h]
end Go.Kq

namespace Go.Kq
open Go.RowKit

theorem wpL_append_any {P : Program} {w : World} {ops : Array Oper} {rest : List Oper} {o : Oper} {a : Act} {Q : Exit → Act → World → Prop} (hgd : o.guard = none) (s x : Operand) (t : TypeId)
    (ho : o.op = .call { callee := .builtin .append, args := #[s, x], argTypes := #[t, t] })
    (base : Nat) (e : TypeId) (i : TypeInfo) (z : Value) (size bytes : Nat) (ht : P.underlying t = some (.slice e)) (hi : P.info? e = some i) (hz : i.zero = some z)
    (hsize : i.size = size) (hby : i.bytes = bytes) (hzs : z.cells.size = size) (hsz : 0 < size)
    (v : Value) (n : Nat) (xs : List Value) (hs : a.eval s = v) (hown : w.ownsRow base e size v n xs)
    (ao : Option Addr) (m c : Nat) (news : List Value) (hx : a.eval x = .slice ao m c) (hl : news.length = m * size) (hnone : ao = none → m = 0 ∧ c = 0) (hnews : ∀ ad, ao = some ad → ∀ j u, news[j]? = some u → w.cell? (ad.add j) = some u) (h1 : ∀ u ∈ news, u.oneCell' = true)
    (h63 : n + m ≤ maxLen) (hbytes : (n + m) * bytes ≤ 140737488355328) (hbase : base ≤ w.heap.size)
    (h : ∀ v' w', w'.ownsRow base e size v' (n + m) (xs ++ news) → w.grownBy w' v.ownBlock → (v'.ownBlock = v.ownBlock ∨ v'.ownBlock = some w.heap.size) → wpList P ops Q rest (a.put o.dst v') w') :
    wpList P ops Q (o :: rest) a w := by
  cases ao with
  | some ad => exact wpList_append_own_at (w := w) hgd s x t ho base e i z size bytes ht hi hz hsize hby hzs hsz v n xs hs hown ad m c news hx hl (hnews ad rfl) h1 h63 hbytes hbase fun v' w' h2 h3 _ h5 => h v' w' h2 h3 h5
  | none =>
    obtain ⟨rfl, rfl⟩ := hnone rfl
    refine wpList_plain hgd fun K hK => ?_
    have hrun := run_append_owned_none (P := P) (w := w) base t o.type e i size ht hi v n xs hown
    have hn : news = [] := List.length_eq_zero_iff.1 (by simpa using hl)
    unfold Oper.wp execOp
    simp only [ho, resolve, invoke, builtin, Sem.run_bind, Sem.run_pure, Result.andThen_ok, List.map_toArray, List.map_cons, List.map_nil, hs, hx, hrun]
    exact hK _ _ (h v w (by simpa [hn] using hown) (World.grownBy.refl _ _) (.inl rfl))
end Go.Kq

namespace Go.Kq
open Go.RowKit

theorem own_form {w : World} {base n : Nat} {e : TypeId} {size : Nat} {v : Value} {xs : List Value} (h : w.ownsRow base e size v n xs) : ∃ a cap, v = .slice a n cap ∧ n ≤ cap ∧ cap ≤ maxLen ∧ (0 < n → ∃ g, a = some ⟨g, 0, none⟩) := by
  rcases h.2 with ⟨rfl, rfl⟩ | ⟨g, cap, _, rfl, _, _, h1, h2, _⟩
  · exact ⟨none, 0, rfl, by omega, by omega, fun h => by omega⟩
  · exact ⟨_, cap, rfl, h1, h2, fun _ => ⟨g, rfl⟩⟩
theorem own_ge {w : World} {base m : Nat} {e : TypeId} {size : Nat} {v : Value} {xs : List Value} (h : w.ownsRow base e size v m xs) {g : Nat} (hg : v.ownBlock = some g) : base ≤ g ∧ g < w.heap.size := h.lt g hg
theorem own_mono {w : World} {base base' m : Nat} {e : TypeId} {size : Nat} {v : Value} {xs : List Value} (h : w.ownsRow base e size v m xs) (hb : base' ≤ base) : w.ownsRow base' e size v m xs := by
  rcases h with ⟨hl, h0 | ⟨g, cap, cur, hv, hbg, rest⟩⟩
  · exact ⟨hl, .inl h0⟩
  · exact ⟨hl, .inr ⟨g, cap, cur, hv, by omega, rest⟩⟩
theorem own_apart {w : World} {base base' n n' : Nat} {e e' : TypeId} {size size' : Nat} {v v' : Value} {xs xs' : List Value} (h : w.ownsRow base e size v n xs) (h' : w.ownsRow base' e' size' v' n' xs') (hne : e ≠ e') {g : Nat} (hg : v.ownBlock = some g) : v'.ownBlock ≠ some g := by
  intro hg'
  rcases h.2 with ⟨rfl, _⟩ | ⟨g1, _, _, rfl, _, hh, _⟩
  · cases hg
  · rcases h'.2 with ⟨rfl, _⟩ | ⟨g2, _, _, rfl, _, hh', _⟩
    · cases hg'
    · cases hg
      cases hg'
      rw [hh] at hh'
      injection hh' with hh'
      injection hh' with _ ht
      exact hne ht
theorem own_other {w : World} {base n : Nat} {e e' : TypeId} {size : Nat} {v : Value} {xs : List Value} (h : w.ownsRow base e size v n xs) {B : Nat} {cs : Array Value} {m : Nat × Nat} (hB : w.heap[B]? = some (.cells cs e' m)) (hne : e ≠ e') : v.ownBlock ≠ some B := by
  intro hg
  rcases h.2 with ⟨rfl, _⟩ | ⟨g1, _, _, rfl, _, hh, _⟩
  · cases hg
  · cases hg
    rw [hh] at hB
    injection hB with hB
    injection hB with _ ht
    exact hne ht
theorem own_set {w : World} {base n cap g : Nat} {e : TypeId} {size : Nat} {xs : List Value} (h : w.ownsRow base e size (.slice (some ⟨g, 0, none⟩) n cap) n xs) (j : Nat) (u : Value) : (w.setCell ⟨g, j, none⟩ u).ownsRow base e size (.slice (some ⟨g, 0, none⟩) n cap) n (xs.set j u) := by
  obtain ⟨hl, h2⟩ := h
  rcases h2 with ⟨h0, _⟩ | ⟨g', cap', cur, hv, hb, hg, h1, h2, h3, h4⟩
  · cases h0
  · cases hv
    refine ⟨by simpa using hl, .inr ⟨_, _, cur.setIfInBounds j u, rfl, hb, ?_, h1, h2, by simpa using h3, ?_⟩⟩
    · simp [World.setCell, Array.getElem?_modify, hg]
    · rw [Array.toList_setIfInBounds, List.take_set, h4]
theorem add_at (g o j : Nat) : ((⟨g, o, none⟩ : Addr).add j) = ⟨g, o + j, none⟩ := by unfold Addr.add; split <;> simp_all
theorem own_cell {w : World} {base n cap g : Nat} {e : TypeId} {size : Nat} {xs : List Value} (h : w.ownsRow base e size (.slice (some ⟨g, 0, none⟩) n cap) n xs) {j : Nat} {u : Value} (hj : xs[j]? = some u) : w.cell? ⟨g, j, none⟩ = some u := by
  have := h.cells (g := g) rfl j u hj
  rwa [add_at, Nat.zero_add] at this
theorem own_free {w : World} {base n cap g : Nat} {e : TypeId} {size : Nat} {xs : List Value} (h : w.ownsRow base e size (.slice (some ⟨g, 0, none⟩) n cap) n xs) (j : Nat) : w.frozen? ⟨g, j, none⟩ = false := by
  rcases h.2 with ⟨h0, _⟩ | ⟨g', cap', cur, hv, hb, hg, _⟩
  · cases h0
  · cases hv
    simp [World.frozen?, hg]
theorem own_kp {S : Nat → Prop} {w w' : World} {base n : Nat} {e : TypeId} {size : Nat} {v : Value} {xs : List Value} (h : w.ownsRow base e size v n xs) (hk : Kp S w w') (hS : ∀ g, v.ownBlock = some g → ¬ S g) : w'.ownsRow base e size v n xs := hk.owns h hS
theorem kp_setOne (w : World) (G o : Nat) (v : Value) : Kp (One G) w (w.setCell ⟨G, o, none⟩ v) := Kp.setCell _ _ _ _ fun _ => rfl
theorem own_empty {w : World} {base : Nat} {e : TypeId} {size : Nat} (hb : base ≤ w.heap.size) : (w.alloc (.cells #[] e)).ownsRow base e size (.slice (some ⟨w.heap.size, 0, none⟩) 0 0) 0 [] :=
  ⟨by simp, .inr ⟨_, 0, #[], rfl, hb, heap_alloc_new w _, by omega, by unfold maxLen; omega, by simp, by simp⟩⟩

/-! ### elements of several cells -/
section
variable {α : Type} {f : α → List Value} {s : Nat}
theorem flat_len (hf : ∀ x, (f x).length = s) : ∀ vs : List α, (vs.flatMap f).length = vs.length * s
  | [] => by simp
  | v :: vs => by
    rw [List.flatMap_cons, List.length_append, hf, flat_len hf vs, List.length_cons, Nat.add_mul]
    omega
theorem flat_at (hf : ∀ x, (f x).length = s) : ∀ (vs : List α) (i : Nat) (v : α) (j : Nat) (u : Value), vs[i]? = some v → (f v)[j]? = some u → (vs.flatMap f)[i * s + j]? = some u
  | [], i, v, j, u, h, _ => by simp at h
  | x :: vs, 0, v, j, u, h, hj => by
    simp at h
    subst h
    have := (List.getElem?_eq_some_iff.1 hj).1
    rw [List.flatMap_cons, Nat.zero_mul, Nat.zero_add, List.getElem?_append_left this]
    exact hj
  | x :: vs, i + 1, v, j, u, h, hj => by
    have ih := flat_at hf vs i v j u (by simpa using h) hj
    rw [List.flatMap_cons, List.getElem?_append_right (by rw [hf, Nat.add_mul]; omega), hf, show (i + 1) * s + j - s = i * s + j by rw [Nat.add_mul]; omega]
    exact ih
theorem flat_set (hf : ∀ x, (f x).length = s) : ∀ (vs : List α) (i : Nat) (v v' : α) (j : Nat) (u : Value), vs[i]? = some v → j < s → (f v).set j u = f v' → (vs.flatMap f).set (i * s + j) u = (vs.set i v').flatMap f
  | [], i, v, _, j, u, h, _, _ => by simp at h
  | x :: vs, 0, v, v', j, u, h, hj, hs => by
    simp at h
    subst h
    rw [List.flatMap_cons, Nat.zero_mul, Nat.zero_add, List.set_append_left _ _ (by rw [hf]; exact hj), hs]
    rfl
  | x :: vs, i + 1, v, v', j, u, h, hj, hs => by
    have ih := flat_set hf vs i v v' j u (by simpa using h) hj hs
    rw [List.flatMap_cons, List.set_append_right _ _ (by rw [hf, Nat.add_mul]; omega), hf, show (i + 1) * s + j - s = i * s + j by rw [Nat.add_mul]; omega, ih]
    rfl
theorem own_at (hf : ∀ x, (f x).length = s) {w : World} {base e n : Nat} {A : Option Addr} {cap : Nat} {vs : List α} (h : w.ownsRow base e s (.slice A n cap) n (vs.flatMap f)) {i : Nat} {v : α} (hv : vs[i]? = some v) (hs : 0 < s) :
    ∃ g, A = some ⟨g, 0, none⟩ ∧ base ≤ g ∧ g < w.heap.size ∧ i < n ∧ ∀ j u, (f v)[j]? = some u → w.cell? ⟨g, i * s + j, none⟩ = some u ∧ w.frozen? ⟨g, i * s + j, none⟩ = false := by
  have hl := h.1
  rw [flat_len hf] at hl
  have hi := (List.getElem?_eq_some_iff.1 hv).1
  have hn : vs.length = n := Nat.eq_of_mul_eq_mul_right hs hl
  obtain ⟨a, c, hv', h1, h2, h3⟩ := own_form h
  cases hv'
  obtain ⟨g, rfl⟩ := h3 (by omega)
  have hb := own_ge h (g := g) rfl
  exact ⟨g, rfl, hb.1, hb.2, by omega, fun j u hj => ⟨own_cell h (flat_at hf vs i v j u hv hj), own_free h _⟩⟩
theorem own_count (hf : ∀ x, (f x).length = s) {w : World} {base e n : Nat} {v : Value} {vs : List α} (h : w.ownsRow base e s v n (vs.flatMap f)) (hs : 0 < s) : vs.length = n := by
  have hl := h.1
  rw [flat_len hf] at hl
  exact Nat.eq_of_mul_eq_mul_right hs hl
theorem flat_snoc (vs : List α) (v : α) : (vs ++ [v]).flatMap f = vs.flatMap f ++ f v := by simp
end

/-! ### slices that are read alone -/
/-- A slice of elements of s cells. -/
def Rd {α : Type} (f : α → List Value) (s : Nat) (w : World) (A : Option Addr) (n : Nat) (vs : List α) : Prop :=
  vs.length = n ∧ ∀ i v, vs[i]? = some v → ∃ b o, A = some ⟨b, o, none⟩ ∧ b < w.heap.size ∧ ∀ j u, (f v)[j]? = some u → w.cell? ⟨b, o + i * s + j, none⟩ = some u
section
variable {α : Type} {f : α → List Value} {s : Nat} {w w' : World} {A : Option Addr} {n : Nat} {vs : List α}
theorem Rd.kp {S : Nat → Prop} (h : Rd f s w A n vs) (hk : Kp S w w') (hS : ∀ b o, A = some ⟨b, o, none⟩ → b < w.heap.size → ¬ S b) : Rd f s w' A n vs :=
  ⟨h.1, fun i v hv => by
    obtain ⟨b, o, hA, hb, hc⟩ := h.2 i v hv
    exact ⟨b, o, hA, Nat.lt_of_lt_of_le hb hk.size, fun j u hj => hk.cell (hc j u hj) (hS b o hA hb)⟩⟩
theorem Rd.no (h : Rd f s w A n vs) (hk : Kp No w w') : Rd f s w' A n vs := h.kp hk fun _ _ _ _ h => h
theorem Rd.nil (w : World) (A : Option Addr) : Rd f s w A 0 [] := ⟨rfl, fun i v h => by simp at h⟩
theorem Rd.of_own (hf : ∀ x, (f x).length = s) (hs : 0 < s) {base e cap : Nat} (h : w.ownsRow base e s (.slice A n cap) n (vs.flatMap f)) : Rd f s w A n vs :=
  ⟨own_count hf h hs, fun i v hv => by
    obtain ⟨g, rfl, _, h2, _, hc⟩ := own_at hf h hv hs
    exact ⟨g, 0, rfl, h2, fun j u hj => by rw [Nat.zero_add]; exact (hc j u hj).1⟩⟩
end
/-- A slice of integers. -/
def RdI (k : IntKind) (w : World) (A : Option Addr) (n : Nat) (xs : List Int) : Prop :=
  xs.length = n ∧ ∀ i x, xs[i]? = some x → ∃ b o, A = some ⟨b, o, none⟩ ∧ b < w.heap.size ∧ w.cell? ⟨b, o + i, none⟩ = some (.int k x)
section
variable {k : IntKind} {w w' : World} {A : Option Addr} {n : Nat} {xs : List Int}
theorem RdI.kp {S : Nat → Prop} (h : RdI k w A n xs) (hk : Kp S w w') (hS : ∀ b o, A = some ⟨b, o, none⟩ → b < w.heap.size → ¬ S b) : RdI k w' A n xs :=
  ⟨h.1, fun i v hv => by
    obtain ⟨b, o, hA, hb, hc⟩ := h.2 i v hv
    exact ⟨b, o, hA, Nat.lt_of_lt_of_le hb hk.size, hk.cell hc (hS b o hA hb)⟩⟩
theorem RdI.no (h : RdI k w A n xs) (hk : Kp No w w') : RdI k w' A n xs := h.kp hk fun _ _ _ _ h => h
theorem RdI.nil (w : World) (A : Option Addr) : RdI k w A 0 [] := ⟨rfl, fun i v h => by simp at h⟩
theorem RdI.of_own {base e cap : Nat} (h : w.ownsRow base e 1 (.slice A n cap) n (xs.map (Value.int k))) : RdI k w A n xs := by
  have hl := h.1
  simp at hl
  refine ⟨hl, fun i x hx => ?_⟩
  have hi := (List.getElem?_eq_some_iff.1 hx).1
  obtain ⟨a, c, hv', h1, h2, h3⟩ := own_form h
  cases hv'
  obtain ⟨g, rfl⟩ := h3 (by omega)
  exact ⟨g, 0, rfl, (own_ge h (g := g) rfl).2, by rw [Nat.zero_add]; exact own_cell h (by rw [List.getElem?_map, hx]; rfl)⟩
end
/-- A slice of bools. -/
def RdB (w : World) (A : Option Addr) (n : Nat) (xs : List Bool) : Prop :=
  xs.length = n ∧ ∀ i x, xs[i]? = some x → ∃ b o, A = some ⟨b, o, none⟩ ∧ b < w.heap.size ∧ w.cell? ⟨b, o + i, none⟩ = some (.bool x)
theorem RdB.kp {S : Nat → Prop} {w w' : World} {A : Option Addr} {n : Nat} {xs : List Bool} (h : RdB w A n xs) (hk : Kp S w w') (hS : ∀ b o, A = some ⟨b, o, none⟩ → b < w.heap.size → ¬ S b) : RdB w' A n xs :=
  ⟨h.1, fun i v hv => by
    obtain ⟨b, o, hA, hb, hc⟩ := h.2 i v hv
    exact ⟨b, o, hA, Nat.lt_of_lt_of_le hb hk.size, hk.cell hc (hS b o hA hb)⟩⟩
theorem RdB.no {w w' : World} {A : Option Addr} {n : Nat} {xs : List Bool} (h : RdB w A n xs) (hk : Kp No w w') : RdB w' A n xs := h.kp hk fun _ _ _ _ h => h
end Go.Kq
