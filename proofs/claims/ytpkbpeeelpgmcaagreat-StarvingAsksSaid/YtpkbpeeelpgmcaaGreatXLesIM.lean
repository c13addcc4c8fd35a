/- An append to a slice that has no room (its length is its capacity), in a region that draws its order. No program in sight. · Chapter 15: the law's less: the invariant of its two drawn regions (operations: b made, a1 and a2 appended, bd built, 15 stored). -/
import Derived.ArgAppend
import Derived.Test.YtpkbpeeelpgmcaaGreatXLibApR
import Derived.Test.YtpkbpeeelpgmcaaGreatXLeaI
import Derived.Test.YtpkbpeeelpgmcaaGreatXLibRegInM
namespace Go.Kq
open Go.RowKit

theorem wpo_append_full {P : Program} {w : World} {o : Oper} {a : Act} {K : Act → World → Prop} {Q : Exit → Act → World → Prop} (s x : Operand) (t : TypeId)
    (ho : o.op = .call { callee := .builtin .append, args := #[s, x], argTypes := #[t, t] })
    (e : TypeId) (i : TypeInfo) (z : Value) (size bytes : Nat) (ht : P.underlying t = some (.slice e)) (hi : P.info? e = some i) (hz : i.zero = some z)
    (hsize : i.size = size) (hby : i.bytes = bytes) (hzs : z.cells.size = size) (hsz : 0 < size)
    (ao : Option Addr) (n : Nat) (xs : List Value) (hs : a.eval s = .slice ao n n) (hxl : xs.length = n * size) (hxs : ∀ ad, ao = some ad → ∀ j u, xs[j]? = some u → w.cell? (ad.add j) = some u) (hn : ao = none → n = 0)
    (ad : Addr) (m c : Nat) (news : List Value) (hx : a.eval x = .slice (some ad) m c) (hl : news.length = m * size) (hnews : ∀ j u, news[j]? = some u → w.cell? (ad.add j) = some u) (h1 : ∀ u ∈ news, u.oneCell' = true)
    (hm : 0 < m) (h63 : n + m ≤ maxLen) (hbytes : (n + m) * bytes ≤ 140737488355328)
    (h : ∀ v' w', w'.ownsRow w.heap.size e size v' (n + m) (xs ++ news) → Kp No w w' → K (a.put o.dst v') w') : Oper.wp P o a w K Q := by
  cases ao with
  | none =>
    obtain rfl := hn rfl
    have hx0 : xs = [] := List.length_eq_zero_iff.1 (by simpa using hxl)
    subst hx0
    exact wpo_append s x t ho w.heap.size e i z size bytes ht hi hz hsize hby hzs hsz (.slice none 0 0) 0 [] hs ⟨by simp, .inl ⟨rfl, rfl⟩⟩ ad m c news hx hl hnews h1 h63 hbytes (Nat.le_refl _) fun v' w' ho2 hg _ => h v' w' ho2 (Kp.grown hg fun k hk _ => by simp [Value.ownBlock] at hk)
  | some a1 =>
    obtain ⟨v', w', hr, hown, hgr⟩ := run_append_arg_grows (P := P) w t o.type e i z size bytes ht hi hz hsize hby hzs hsz a1 n n xs hxl (hxs a1 rfl) ad m c news hl hnews (by omega) h63 hbytes
    unfold Oper.wp execOp
    simp only [ho, resolve, invoke, builtin, Sem.run_bind, Sem.run_pure, Result.andThen_ok, List.map_toArray, List.map_cons, List.map_nil, hs, hx, hr]
    exact h v' w' hown (Kp.grown hgr fun k hk _ => by simp at hk)
end Go.Kq

namespace Go.Proofs.YtpkbpeeelpgmcaaGreat
open Go.RowKit Go.Kq Go.Flow

structure LsW (b a1 a2 bd gb : Nat) (w0 : World) (l : List Nat) (i : Nat) (mk : Value → Value) (r : Nat → Option Value) (w : World) : Prop where
  kp : r 15 = none → Kp No w0 w
  k1 : Kp (Kq.One gb) w0 w
  bx : r 15 = none → w.heap[gb]? = some (.cells #[.slice none 0 0, .slice none 0 0] 30 (0, 0))
  o1 : r a1 ≠ none → r b ≠ none
  o2 : r a2 ≠ none → r a1 ≠ none
  o3 : r bd ≠ none → r a2 ≠ none
  o4 : r 15 ≠ none → r bd ≠ none
  c0 : ∀ u, r b = some u → r a1 = none → ∃ g, u = .slice (some ⟨g, 0, none⟩) 0 0 ∧ w.ownsRow w0.heap.size 3 1 u 0 []
  c1 : ∀ u, r a1 = some u → r a2 = none → w.ownsRow w0.heap.size 3 1 u i (((l.take i).map Int.ofNat).map (Value.int .i64))
  c2 : ∀ u, r a2 = some u → ∃ A d, u = .slice A (cutL l i).length d ∧ OwN w w0.heap.size u (cutL l i)
  c3 : ∀ u, r bd = some u → ∃ u2, r a2 = some u2 ∧ u = mk u2
  c4 : r 15 ≠ none → ∃ u2 u3, r a2 = some u2 ∧ mk u2 = .agg u3 ∧ w.heap[gb]? = some (.cells u3 30 (0, 0))
section
variable {b a1 a2 bd gb : Nat} {w0 w w' : World} {l : List Nat} {i : Nat} {mk : Value → Value} {r : Nat → Option Value}
/-- What turns nothing. -/
theorem LsW.upd (h : LsW b a1 a2 bd gb w0 l i mk r w) (j : Nat) (v : Value) (h1 : j ≠ b) (h2 : j ≠ a1) (h3 : j ≠ a2) (h4 : j ≠ bd) (h5 : j ≠ 15) : LsW b a1 a2 bd gb w0 l i mk (Kq.upd r j v) w where
  kp e := h.kp (by rwa [upd_ne _ _ h5.symm] at e)
  k1 := h.k1
  bx e := h.bx (by rwa [upd_ne _ _ h5.symm] at e)
  o1 := by rw [upd_ne _ _ h2.symm, upd_ne _ _ h1.symm]; exact h.o1
  o2 := by rw [upd_ne _ _ h3.symm, upd_ne _ _ h2.symm]; exact h.o2
  o3 := by rw [upd_ne _ _ h4.symm, upd_ne _ _ h3.symm]; exact h.o3
  o4 := by rw [upd_ne _ _ h5.symm, upd_ne _ _ h4.symm]; exact h.o4
  c0 u hu := by rw [upd_ne _ _ h2.symm]; exact h.c0 u (by rwa [upd_ne _ _ h1.symm] at hu)
  c1 u hu := by rw [upd_ne _ _ h3.symm]; exact h.c1 u (by rwa [upd_ne _ _ h2.symm] at hu)
  c2 u hu := h.c2 u (by rwa [upd_ne _ _ h3.symm] at hu)
  c3 u hu := by rw [upd_ne _ _ h3.symm]; exact h.c3 u (by rwa [upd_ne _ _ h4.symm] at hu)
  c4 := by rw [upd_ne _ _ h5.symm, upd_ne _ _ h3.symm]; exact h.c4
/-- At the start. -/
theorem LsW.start (hb : w0.heap[gb]? = some (.cells #[.slice none 0 0, .slice none 0 0] 30 (0, 0))) : LsW b a1 a2 bd gb w0 l i mk (fun _ => none) w0.drew where
  kp _ := Kp.drew _ _
  k1 := Kp.drew _ _
  bx _ := (Kp.drew No w0).heap hb id
  o1 e := absurd rfl e
  o2 e := absurd rfl e
  o3 e := absurd rfl e
  o4 e := absurd rfl e
  c0 u hu := (by cases hu)
  c1 u hu := (by cases hu)
  c2 u hu := (by cases hu)
  c3 u hu := (by cases hu)
  c4 e := absurd rfl e
theorem none_of {j k : Nat} (o : r k ≠ none → r j ≠ none) (h : r j = none) : r k = none := by
  cases e : r k with
  | none => rfl
  | some u => exact absurd h (o (by rw [e]; simp))
/-- The empty row. -/
theorem LsW.putB (h : LsW b a1 a2 bd gb w0 l i mk r w) (n1 : a1 ≠ b) (n2 : a2 ≠ b) (n3 : bd ≠ b) (n5 : 15 ≠ b) (hr : r b = none) : LsW b a1 a2 bd gb w0 l i mk (Kq.upd r b (.slice (some ⟨w.heap.size, 0, none⟩) 0 0)) (w.alloc (.cells #[] 3)) := by
  have h1 := none_of h.o1 hr
  have h2 := none_of h.o2 h1
  have h3 := none_of h.o3 h2
  have h4 := none_of h.o4 h3
  have k : Kp No w (w.alloc (.cells #[] 3)) := Kp.alloc _ _ _
  refine { kp := fun _ => (h.kp h4).tr k, k1 := h.k1.no k, bx := fun _ => k.heap (h.bx h4) id, o1 := fun e => ?_, o2 := fun e => ?_, o3 := fun e => ?_, o4 := fun e => ?_, c0 := fun u hu _ => ?_, c1 := fun u hu => ?_, c2 := fun u hu => ?_, c3 := fun u hu => ?_, c4 := fun e => ?_ }
  · rw [upd_same]; simp
  · rw [upd_ne _ _ n2, h2] at e; exact absurd rfl e
  · rw [upd_ne _ _ n3, h3] at e; exact absurd rfl e
  · rw [upd_ne _ _ n5, h4] at e; exact absurd rfl e
  · rw [upd_same] at hu
    cases hu
    exact ⟨_, rfl, own_empty h.k1.size⟩
  · rw [upd_ne _ _ n1, h1] at hu; cases hu
  · rw [upd_ne _ _ n2, h2] at hu; cases hu
  · rw [upd_ne _ _ n3, h3] at hu; cases hu
  · rw [upd_ne _ _ n5, h4] at e; exact absurd rfl e
theorem grown_no {base n : Nat} {e : TypeId} {size : Nat} {u : Value} {xs : List Value} (h0 : Kp No w0 w) (ho : w.ownsRow base e size u n xs) (hb : w0.heap.size ≤ base) (hg : w.grownBy w' u.ownBlock) : Kp No w0 w' :=
  h0.trans (Kp.grown (S := fun b => w0.heap.size ≤ b) hg fun k hk _ => by have := (own_ge ho hk).1; omega) fun k hk h => by have h : w0.heap.size ≤ k := h; omega
/-- The first part is appended. -/
theorem LsW.putA1 (h : LsW b a1 a2 bd gb w0 l i mk r w) (n1 : b ≠ a1) (n2 : a2 ≠ a1) (n3 : bd ≠ a1) (n5 : 15 ≠ a1) (hr : r a1 = none) (hrb : r b ≠ none) {u v : Value} {n : Nat} {xs : List Value} (ho0 : w.ownsRow w0.heap.size 3 1 u n xs) (hgb : gb < w0.heap.size) (ho : w'.ownsRow w0.heap.size 3 1 v i (((l.take i).map Int.ofNat).map (Value.int .i64))) (hg : w.grownBy w' u.ownBlock) : LsW b a1 a2 bd gb w0 l i mk (Kq.upd r a1 v) w' := by
  have h2 := none_of h.o2 hr
  have h3 := none_of h.o3 h2
  have h4 := none_of h.o4 h3
  have k := grown_no (h.kp h4) ho0 (Nat.le_refl _) hg
  refine { kp := fun _ => k, k1 := k.of_no, bx := fun _ => ?_, o1 := fun _ => ?_, o2 := fun e => ?_, o3 := fun e => ?_, o4 := fun e => ?_, c0 := fun u hu e => ?_, c1 := fun u hu _ => ?_, c2 := fun u hu => ?_, c3 := fun u hu => ?_, c4 := fun e => ?_ }
  · exact (Kp.grown (S := fun b => w0.heap.size ≤ b) hg fun k hk _ => (own_ge ho0 hk).1).heap (h.bx h4) (fun e => by have e : w0.heap.size ≤ gb := e; omega)
  · rw [upd_ne _ _ n1]; exact hrb
  · rw [upd_ne _ _ n2, h2] at e; exact absurd rfl e
  · rw [upd_ne _ _ n3, h3] at e; exact absurd rfl e
  · rw [upd_ne _ _ n5, h4] at e; exact absurd rfl e
  · rw [upd_same] at e; cases e
  · rw [upd_same] at hu
    cases hu
    exact ho
  · rw [upd_ne _ _ n2, h2] at hu; cases hu
  · rw [upd_ne _ _ n3, h3] at hu; cases hu
  · rw [upd_ne _ _ n5, h4] at e; exact absurd rfl e
/-- The second part is appended. -/
theorem LsW.putA2 (h : LsW b a1 a2 bd gb w0 l i mk r w) (n1 : b ≠ a2) (n2 : a1 ≠ a2) (n3 : bd ≠ a2) (n5 : 15 ≠ a2) (hr : r a2 = none) (hr1 : r a1 ≠ none) {u : Value} {n : Nat} {xs : List Value} (ho0 : w.ownsRow w0.heap.size 3 1 u n xs) (hgb : gb < w0.heap.size) (A : Option Addr) (d : Nat) (ho : OwN w' w0.heap.size (.slice A (cutL l i).length d) (cutL l i)) (hg : w.grownBy w' u.ownBlock) : LsW b a1 a2 bd gb w0 l i mk (Kq.upd r a2 (.slice A (cutL l i).length d)) w' := by
  have h3 := none_of h.o3 hr
  have h4 := none_of h.o4 h3
  have k := grown_no (h.kp h4) ho0 (Nat.le_refl _) hg
  refine { kp := fun _ => k, k1 := k.of_no, bx := fun _ => ?_, o1 := fun e => ?_, o2 := fun _ => ?_, o3 := fun e => ?_, o4 := fun e => ?_, c0 := fun u hu e => ?_, c1 := fun u hu e => ?_, c2 := fun u hu => ?_, c3 := fun u hu => ?_, c4 := fun e => ?_ }
  · exact (Kp.grown (S := fun b => w0.heap.size ≤ b) hg fun k hk _ => (own_ge ho0 hk).1).heap (h.bx h4) (fun e => by have e : w0.heap.size ≤ gb := e; omega)
  · rw [upd_ne _ _ n1]; exact h.o1 (by rwa [upd_ne _ _ n2] at e)
  · rw [upd_ne _ _ n2]; exact hr1
  · rw [upd_ne _ _ n3, h3] at e; exact absurd rfl e
  · rw [upd_ne _ _ n5, h4] at e; exact absurd rfl e
  · rw [upd_ne _ _ n2] at e; exact absurd e hr1
  · rw [upd_same] at e; cases e
  · rw [upd_same] at hu
    cases hu
    exact ⟨A, d, rfl, ho⟩
  · rw [upd_ne _ _ n3, h3] at hu; cases hu
  · rw [upd_ne _ _ n5, h4] at e; exact absurd rfl e
/-- The combination is built. -/
theorem LsW.putBd (h : LsW b a1 a2 bd gb w0 l i mk r w) (n1 : b ≠ bd) (n2 : a1 ≠ bd) (n3 : a2 ≠ bd) (n5 : 15 ≠ bd) (hr : r bd = none) {u2 : Value} (h2 : r a2 = some u2) : LsW b a1 a2 bd gb w0 l i mk (Kq.upd r bd (mk u2)) w := by
  have h4 := none_of h.o4 hr
  refine { kp := fun e => h.kp h4, k1 := h.k1, bx := fun _ => h.bx h4, o1 := fun e => ?_, o2 := fun e => ?_, o3 := fun _ => ?_, o4 := fun e => ?_, c0 := fun u hu e => ?_, c1 := fun u hu e => ?_, c2 := fun u hu => ?_, c3 := fun u hu => ?_, c4 := fun e => ?_ }
  · rw [upd_ne _ _ n1]; exact h.o1 (by rwa [upd_ne _ _ n2] at e)
  · rw [upd_ne _ _ n2]; exact h.o2 (by rwa [upd_ne _ _ n3] at e)
  · rw [upd_ne _ _ n3, h2]; simp
  · rw [upd_ne _ _ n5, h4] at e; exact absurd rfl e
  · exact h.c0 u (by rwa [upd_ne _ _ n1] at hu) (by rwa [upd_ne _ _ n2] at e)
  · exact h.c1 u (by rwa [upd_ne _ _ n2] at hu) (by rwa [upd_ne _ _ n3] at e)
  · exact h.c2 u (by rwa [upd_ne _ _ n3] at hu)
  · rw [upd_same] at hu
    cases hu
    exact ⟨u2, by rw [upd_ne _ _ n3]; exact h2, rfl⟩
  · rw [upd_ne _ _ n5, h4] at e; exact absurd rfl e
/-- It is stored. -/
theorem LsW.put15 (h : LsW b a1 a2 bd gb w0 l i mk r w) (n1 : b ≠ 15) (n2 : a1 ≠ 15) (n3 : a2 ≠ 15) (n4 : bd ≠ 15) (hgb : gb < w0.heap.size) (v : Value) {u2 : Value} {u3 : Array Value} (h2 : r a2 = some u2) (hd : r bd ≠ none) (hm : mk u2 = .agg u3) (k : Kp (Kq.One gb) w w') (hb : w'.heap[gb]? = some (.cells u3 30 (0, 0))) : LsW b a1 a2 bd gb w0 l i mk (Kq.upd r 15 v) w' := by
  have own : ∀ {u : Value} {n : Nat} {xs : List Value}, w.ownsRow w0.heap.size 3 1 u n xs → w'.ownsRow w0.heap.size 3 1 u n xs := fun ho => own_kp ho k fun g hg e => by
    have e : g = gb := e
    have := (own_ge ho hg).1
    omega
  refine { kp := fun e => ?_, k1 := h.k1.tr k, bx := fun e => ?_, o1 := fun e => ?_, o2 := fun e => ?_, o3 := fun e => ?_, o4 := fun _ => ?_, c0 := fun u hu e => ?_, c1 := fun u hu e => ?_, c2 := fun u hu => ?_, c3 := fun u hu => ?_, c4 := fun _ => ?_ }
  · rw [upd_same] at e; cases e
  · rw [upd_same] at e; cases e
  · rw [upd_ne _ _ n1]; exact h.o1 (by rwa [upd_ne _ _ n2] at e)
  · rw [upd_ne _ _ n2]; exact h.o2 (by rwa [upd_ne _ _ n3] at e)
  · rw [upd_ne _ _ n3]; exact h.o3 (by rwa [upd_ne _ _ n4] at e)
  · rw [upd_ne _ _ n4]; exact hd
  · obtain ⟨g, e1, e2⟩ := h.c0 u (by rwa [upd_ne _ _ n1] at hu) (by rwa [upd_ne _ _ n2] at e)
    exact ⟨g, e1, own e2⟩
  · exact own (h.c1 u (by rwa [upd_ne _ _ n2] at hu) (by rwa [upd_ne _ _ n3] at e))
  · obtain ⟨A, d, e1, e2⟩ := h.c2 u (by rwa [upd_ne _ _ n3] at hu)
    exact ⟨A, d, e1, own e2⟩
  · rw [upd_ne _ _ n3]; exact h.c3 u (by rwa [upd_ne _ _ n4] at hu)
  · exact ⟨u2, u3, by rw [upd_ne _ _ n3]; exact h2, hm, hb⟩
/-- At the end. -/
theorem LsW.fin (h : LsW b a1 a2 bd gb w0 l i mk r w) (hr : r 15 ≠ none) : ∃ A d u3, r a2 = some (.slice A (cutL l i).length d) ∧ OwN w w0.heap.size (.slice A (cutL l i).length d) (cutL l i) ∧ mk (.slice A (cutL l i).length d) = .agg u3 ∧ w.heap[gb]? = some (.cells u3 30 (0, 0)) ∧ Kp (Kq.One gb) w0 w := by
  obtain ⟨u2, u3, h1, h2, h3⟩ := h.c4 hr
  obtain ⟨A, d, rfl, ho⟩ := h.c2 u2 h1
  exact ⟨A, d, u3, h1, ho, h2, h3, h.k1⟩
end
end Go.Proofs.YtpkbpeeelpgmcaaGreat
