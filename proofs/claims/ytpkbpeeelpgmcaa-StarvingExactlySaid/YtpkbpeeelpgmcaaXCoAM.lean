/- Chapter 15: the least combinations: what the law asks of them, plain. · Chapter 15: the law's less: the invariant of its two drawn regions (operations: b made, a1 and a2 appended, bd built, 15 stored). · Chapter 15: the law's contains. -/
import Derived.Test.YtpkbpeeelpgmcaaXCmBM
import Derived.Test.YtpkbpeeelpgmcaaXLprPM
namespace Go.Proofs.Ytpkbpeeelpgmcaa

/-- A list without its i-th element. -/
def cutL (l : List Nat) (i : Nat) : List Nat := l.take i ++ l.drop (i + 1)
theorem cutL_mem {l : List Nat} {i x : Nat} (h : x ∈ cutL l i) : x ∈ l := by
  rcases List.mem_append.1 h with h | h
  · exact List.mem_of_mem_take h
  · exact List.mem_of_mem_drop h
theorem cutL_len {l : List Nat} {i : Nat} (h : i < l.length) : (cutL l i).length + 1 = l.length := by
  unfold cutL
  rw [List.length_append, List.length_take, List.length_drop]
  omega
theorem cutL_up {l : List Nat} (i : Nat) (h : l.Pairwise (· < ·)) : (cutL l i).Pairwise (· < ·) := by
  unfold cutL
  rw [← List.eraseIdx_eq_take_drop_succ]
  exact h.sublist (List.eraseIdx_sublist _ _)
/-- A combination without one of its stops or keys. -/
def lessC (c : Cb) (i : Nat) : Cb := if i < c.st.length then ⟨cutL c.st i, c.ky⟩ else ⟨c.st, cutL c.ky (i - c.st.length)⟩
theorem lessC_ok {S K : Nat} {c : Cb} (h : CbOk S K c) (i : Nat) : CbOk S K (lessC c i) := by
  unfold lessC
  split
  · exact ⟨cutL_up _ h.s1, fun x hx => h.s2 x (cutL_mem hx), h.k1, h.k2⟩
  · exact ⟨h.s1, h.s2, cutL_up _ h.k1, fun x hx => h.k2 x (cutL_mem hx)⟩
theorem lessC_in (c : Cb) (i : Nat) : (lessC c i).inB c = true := by
  rw [Cb.inB_iff]
  unfold lessC
  split
  · exact ⟨fun x hx => cutL_mem hx, fun x hx => hx⟩
  · exact ⟨fun x hx => hx, fun x hx => cutL_mem hx⟩
theorem lessC_ne {c : Cb} {i : Nat} (h : i < c.st.length + c.ky.length) : lessC c i ≠ c := fun e => by
  unfold lessC at e
  split at e
  · rename_i h1
    have h2 := cutL_len h1
    have := congrArg (fun c => c.st.length) e
    simp only at this
    omega
  · have h2 := cutL_len (l := c.ky) (i := i - c.st.length) (by omega)
    have := congrArg (fun c => c.ky.length) e
    simp only at this
    omega
/-- A least one starves, and not without one of its stops or keys. -/
theorem least_no {S K : Nat} {p : Cb → Bool} {c : Cb} (hc : c ∈ leaC S K p) {i : Nat} (h : i < c.st.length + c.ky.length) : p (lessC c i) = false := by
  obtain ⟨hok, hm⟩ := mem_leaC.1 hc
  cases hp : p (lessC c i) with
  | false => rfl
  | true => exact absurd ((minB_iff.1 hm).2 _ (lessC_ok hok i) (lessC_in c i) hp) (lessC_ne h)
theorem least_yes {S K : Nat} {p : Cb → Bool} {c : Cb} (hc : c ∈ leaC S K p) : p c = true := (minB_iff.1 (mem_leaC.1 hc).2).1
theorem least_up {S K : Nat} {p : Cb → Bool} {i : Nat} {a b : Cb} (ha : (leaC S K p)[i]? = some a) (hb : (leaC S K p)[i + 1]? = some b) : cmpC a b < 0 := by
  have h := leaC_up S K p
  obtain ⟨h1, e1⟩ := List.getElem?_eq_some_iff.1 ha
  obtain ⟨h2, e2⟩ := List.getElem?_eq_some_iff.1 hb
  have := List.pairwise_iff_getElem.1 h i (i + 1) h1 h2 (by omega)
  rw [e1, e2] at this
  exact this
end Go.Proofs.Ytpkbpeeelpgmcaa

namespace Go.Proofs.Ytpkbpeeelpgmcaa
open Go.RowKit Go.Kq Go.Flow

structure LsW (b a1 a2 bd gb : Nat) (w0 : World) (l : List Nat) (i : Nat) (mk : Value → Value) (r : Nat → Option Value) (w : World) : Prop where
  kp : r 15 = none → Kp No w0 w
  k1 : Kp (Kq.One gb) w0 w
  bx : r 15 = none → w.heap[gb]? = some (.cells #[.slice none 0 0, .slice none 0 0] 30 (0, 0))
  o1 : r a1 ≠ none → r b ≠ none
  o2 : r a2 ≠ none → r a1 ≠ none
  o3 : r bd ≠ none → r a2 ≠ none
  o4 : r 15 ≠ none → r bd ≠ none
  c0 : ∀ u, r b = some u → r a1 = none → ∃ g, u = .slice (some ⟨g, 0, none⟩) 0 0 ∧ w.ownsRow w0.heap.size 3 1 u 0 []
  c1 : ∀ u, r a1 = some u → r a2 = none → w.ownsRow w0.heap.size 3 1 u i (((l.take i).map Int.ofNat).map (Value.int .i64))
  c2 : ∀ u, r a2 = some u → ∃ A d, u = .slice A (cutL l i).length d ∧ OwN w w0.heap.size u (cutL l i)
  c3 : ∀ u, r bd = some u → ∃ u2, r a2 = some u2 ∧ u = mk u2
  c4 : r 15 ≠ none → ∃ u2 u3, r a2 = some u2 ∧ mk u2 = .agg u3 ∧ w.heap[gb]? = some (.cells u3 30 (0, 0))
section
variable {b a1 a2 bd gb : Nat} {w0 w w' : World} {l : List Nat} {i : Nat} {mk : Value → Value} {r : Nat → Option Value}
/-- What turns nothing. -/
theorem LsW.upd (h : LsW b a1 a2 bd gb w0 l i mk r w) (j : Nat) (v : Value) (h1 : j ≠ b) (h2 : j ≠ a1) (h3 : j ≠ a2) (h4 : j ≠ bd) (h5 : j ≠ 15) : LsW b a1 a2 bd gb w0 l i mk (Kq.upd r j v) w where
  kp e := h.kp (by rwa [upd_ne _ _ h5.symm] at e)
  k1 := h.k1
  bx e := h.bx (by rwa [upd_ne _ _ h5.symm] at e)
  o1 := by rw [upd_ne _ _ h2.symm, upd_ne _ _ h1.symm]; exact h.o1
  o2 := by rw [upd_ne _ _ h3.symm, upd_ne _ _ h2.symm]; exact h.o2
  o3 := by rw [upd_ne _ _ h4.symm, upd_ne _ _ h3.symm]; exact h.o3
  o4 := by rw [upd_ne _ _ h5.symm, upd_ne _ _ h4.symm]; exact h.o4
  c0 u hu := by rw [upd_ne _ _ h2.symm]; exact h.c0 u (by rwa [upd_ne _ _ h1.symm] at hu)
  c1 u hu := by rw [upd_ne _ _ h3.symm]; exact h.c1 u (by rwa [upd_ne _ _ h2.symm] at hu)
  c2 u hu := h.c2 u (by rwa [upd_ne _ _ h3.symm] at hu)
  c3 u hu := by rw [upd_ne _ _ h3.symm]; exact h.c3 u (by rwa [upd_ne _ _ h4.symm] at hu)
  c4 := by rw [upd_ne _ _ h5.symm, upd_ne _ _ h3.symm]; exact h.c4
/-- At the start. -/
theorem LsW.start (hb : w0.heap[gb]? = some (.cells #[.slice none 0 0, .slice none 0 0] 30 (0, 0))) : LsW b a1 a2 bd gb w0 l i mk (fun _ => none) w0.drew where
  kp _ := Kp.drew _ _
  k1 := Kp.drew _ _
  bx _ := (Kp.drew No w0).heap hb id
  o1 e := absurd rfl e
  o2 e := absurd rfl e
  o3 e := absurd rfl e
  o4 e := absurd rfl e
  c0 u hu := (by cases hu)
  c1 u hu := (by cases hu)
  c2 u hu := (by cases hu)
  c3 u hu := (by cases hu)
  c4 e := absurd rfl e
theorem none_of {j k : Nat} (o : r k ≠ none → r j ≠ none) (h : r j = none) : r k = none := by
  cases e : r k with
  | none => rfl
  | some u => exact absurd h (o (by rw [e]; simp))
/-- The empty row. -/
theorem LsW.putB (h : LsW b a1 a2 bd gb w0 l i mk r w) (n1 : a1 ≠ b) (n2 : a2 ≠ b) (n3 : bd ≠ b) (n5 : 15 ≠ b) (hr : r b = none) : LsW b a1 a2 bd gb w0 l i mk (Kq.upd r b (.slice (some ⟨w.heap.size, 0, none⟩) 0 0)) (w.alloc (.cells #[] 3)) := by
  have h1 := none_of h.o1 hr
  have h2 := none_of h.o2 h1
  have h3 := none_of h.o3 h2
  have h4 := none_of h.o4 h3
  have k : Kp No w (w.alloc (.cells #[] 3)) := Kp.alloc _ _ _
  refine { kp := fun _ => (h.kp h4).tr k, k1 := h.k1.no k, bx := fun _ => k.heap (h.bx h4) id, o1 := fun e => ?_, o2 := fun e => ?_, o3 := fun e => ?_, o4 := fun e => ?_, c0 := fun u hu _ => ?_, c1 := fun u hu => ?_, c2 := fun u hu => ?_, c3 := fun u hu => ?_, c4 := fun e => ?_ }
  · rw [upd_same]; simp
  · rw [upd_ne _ _ n2, h2] at e; exact absurd rfl e
  · rw [upd_ne _ _ n3, h3] at e; exact absurd rfl e
  · rw [upd_ne _ _ n5, h4] at e; exact absurd rfl e
  · rw [upd_same] at hu
    cases hu
    exact ⟨_, rfl, own_empty h.k1.size⟩
  · rw [upd_ne _ _ n1, h1] at hu; cases hu
  · rw [upd_ne _ _ n2, h2] at hu; cases hu
  · rw [upd_ne _ _ n3, h3] at hu; cases hu
  · rw [upd_ne _ _ n5, h4] at e; exact absurd rfl e
theorem grown_no {base n : Nat} {e : TypeId} {size : Nat} {u : Value} {xs : List Value} (h0 : Kp No w0 w) (ho : w.ownsRow base e size u n xs) (hb : w0.heap.size ≤ base) (hg : w.grownBy w' u.ownBlock) : Kp No w0 w' :=
  h0.trans (Kp.grown (S := fun b => w0.heap.size ≤ b) hg fun k hk _ => by have := (own_ge ho hk).1; omega) fun k hk h => by have h : w0.heap.size ≤ k := h; omega
/-- The first part is appended. -/
theorem LsW.putA1 (h : LsW b a1 a2 bd gb w0 l i mk r w) (n1 : b ≠ a1) (n2 : a2 ≠ a1) (n3 : bd ≠ a1) (n5 : 15 ≠ a1) (hr : r a1 = none) (hrb : r b ≠ none) {u v : Value} {n : Nat} {xs : List Value} (ho0 : w.ownsRow w0.heap.size 3 1 u n xs) (hgb : gb < w0.heap.size) (ho : w'.ownsRow w0.heap.size 3 1 v i (((l.take i).map Int.ofNat).map (Value.int .i64))) (hg : w.grownBy w' u.ownBlock) : LsW b a1 a2 bd gb w0 l i mk (Kq.upd r a1 v) w' := by
  have h2 := none_of h.o2 hr
  have h3 := none_of h.o3 h2
  have h4 := none_of h.o4 h3
  have k := grown_no (h.kp h4) ho0 (Nat.le_refl _) hg
  refine { kp := fun _ => k, k1 := k.of_no, bx := fun _ => ?_, o1 := fun _ => ?_, o2 := fun e => ?_, o3 := fun e => ?_, o4 := fun e => ?_, c0 := fun u hu e => ?_, c1 := fun u hu _ => ?_, c2 := fun u hu => ?_, c3 := fun u hu => ?_, c4 := fun e => ?_ }
  · exact (Kp.grown (S := fun b => w0.heap.size ≤ b) hg fun k hk _ => (own_ge ho0 hk).1).heap (h.bx h4) (fun e => by have e : w0.heap.size ≤ gb := e; omega)
  · rw [upd_ne _ _ n1]; exact hrb
  · rw [upd_ne _ _ n2, h2] at e; exact absurd rfl e
  · rw [upd_ne _ _ n3, h3] at e; exact absurd rfl e
  · rw [upd_ne _ _ n5, h4] at e; exact absurd rfl e
  · rw [upd_same] at e; cases e
  · rw [upd_same] at hu
    cases hu
    exact ho
  · rw [upd_ne _ _ n2, h2] at hu; cases hu
  · rw [upd_ne _ _ n3, h3] at hu; cases hu
  · rw [upd_ne _ _ n5, h4] at e; exact absurd rfl e
/-- The second part is appended. -/
theorem LsW.putA2 (h : LsW b a1 a2 bd gb w0 l i mk r w) (n1 : b ≠ a2) (n2 : a1 ≠ a2) (n3 : bd ≠ a2) (n5 : 15 ≠ a2) (hr : r a2 = none) (hr1 : r a1 ≠ none) {u : Value} {n : Nat} {xs : List Value} (ho0 : w.ownsRow w0.heap.size 3 1 u n xs) (hgb : gb < w0.heap.size) (A : Option Addr) (d : Nat) (ho : OwN w' w0.heap.size (.slice A (cutL l i).length d) (cutL l i)) (hg : w.grownBy w' u.ownBlock) : LsW b a1 a2 bd gb w0 l i mk (Kq.upd r a2 (.slice A (cutL l i).length d)) w' := by
  have h3 := none_of h.o3 hr
  have h4 := none_of h.o4 h3
  have k := grown_no (h.kp h4) ho0 (Nat.le_refl _) hg
  refine { kp := fun _ => k, k1 := k.of_no, bx := fun _ => ?_, o1 := fun e => ?_, o2 := fun _ => ?_, o3 := fun e => ?_, o4 := fun e => ?_, c0 := fun u hu e => ?_, c1 := fun u hu e => ?_, c2 := fun u hu => ?_, c3 := fun u hu => ?_, c4 := fun e => ?_ }
  · exact (Kp.grown (S := fun b => w0.heap.size ≤ b) hg fun k hk _ => (own_ge ho0 hk).1).heap (h.bx h4) (fun e => by have e : w0.heap.size ≤ gb := e; omega)
  · rw [upd_ne _ _ n1]; exact h.o1 (by rwa [upd_ne _ _ n2] at e)
  · rw [upd_ne _ _ n2]; exact hr1
  · rw [upd_ne _ _ n3, h3] at e; exact absurd rfl e
  · rw [upd_ne _ _ n5, h4] at e; exact absurd rfl e
  · rw [upd_ne _ _ n2] at e; exact absurd e hr1
  · rw [upd_same] at e; cases e
  · rw [upd_same] at hu
    cases hu
    exact ⟨A, d, rfl, ho⟩
  · rw [upd_ne _ _ n3, h3] at hu; cases hu
  · rw [upd_ne _ _ n5, h4] at e; exact absurd rfl e
/-- The combination is built. -/
theorem LsW.putBd (h : LsW b a1 a2 bd gb w0 l i mk r w) (n1 : b ≠ bd) (n2 : a1 ≠ bd) (n3 : a2 ≠ bd) (n5 : 15 ≠ bd) (hr : r bd = none) {u2 : Value} (h2 : r a2 = some u2) : LsW b a1 a2 bd gb w0 l i mk (Kq.upd r bd (mk u2)) w := by
  have h4 := none_of h.o4 hr
  refine { kp := fun e => h.kp h4, k1 := h.k1, bx := fun _ => h.bx h4, o1 := fun e => ?_, o2 := fun e => ?_, o3 := fun _ => ?_, o4 := fun e => ?_, c0 := fun u hu e => ?_, c1 := fun u hu e => ?_, c2 := fun u hu => ?_, c3 := fun u hu => ?_, c4 := fun e => ?_ }
  · rw [upd_ne _ _ n1]; exact h.o1 (by rwa [upd_ne _ _ n2] at e)
  · rw [upd_ne _ _ n2]; exact h.o2 (by rwa [upd_ne _ _ n3] at e)
  · rw [upd_ne _ _ n3, h2]; simp
  · rw [upd_ne _ _ n5, h4] at e; exact absurd rfl e
  · exact h.c0 u (by rwa [upd_ne _ _ n1] at hu) (by rwa [upd_ne _ _ n2] at e)
  · exact h.c1 u (by rwa [upd_ne _ _ n2] at hu) (by rwa [upd_ne _ _ n3] at e)
  · exact h.c2 u (by rwa [upd_ne _ _ n3] at hu)
  · rw [upd_same] at hu
    cases hu
    exact ⟨u2, by rw [upd_ne _ _ n3]; exact h2, rfl⟩
  · rw [upd_ne _ _ n5, h4] at e; exact absurd rfl e
/-- It is stored. -/
theorem LsW.put15 (h : LsW b a1 a2 bd gb w0 l i mk r w) (n1 : b ≠ 15) (n2 : a1 ≠ 15) (n3 : a2 ≠ 15) (n4 : bd ≠ 15) (hgb : gb < w0.heap.size) (v : Value) {u2 : Value} {u3 : Array Value} (h2 : r a2 = some u2) (hd : r bd ≠ none) (hm : mk u2 = .agg u3) (k : Kp (Kq.One gb) w w') (hb : w'.heap[gb]? = some (.cells u3 30 (0, 0))) : LsW b a1 a2 bd gb w0 l i mk (Kq.upd r 15 v) w' := by
  have own : ∀ {u : Value} {n : Nat} {xs : List Value}, w.ownsRow w0.heap.size 3 1 u n xs → w'.ownsRow w0.heap.size 3 1 u n xs := fun ho => own_kp ho k fun g hg e => by
    have e : g = gb := e
    have := (own_ge ho hg).1
    omega
  refine { kp := fun e => ?_, k1 := h.k1.tr k, bx := fun e => ?_, o1 := fun e => ?_, o2 := fun e => ?_, o3 := fun e => ?_, o4 := fun _ => ?_, c0 := fun u hu e => ?_, c1 := fun u hu e => ?_, c2 := fun u hu => ?_, c3 := fun u hu => ?_, c4 := fun _ => ?_ }
  · rw [upd_same] at e; cases e
  · rw [upd_same] at e; cases e
  · rw [upd_ne _ _ n1]; exact h.o1 (by rwa [upd_ne _ _ n2] at e)
  · rw [upd_ne _ _ n2]; exact h.o2 (by rwa [upd_ne _ _ n3] at e)
  · rw [upd_ne _ _ n3]; exact h.o3 (by rwa [upd_ne _ _ n4] at e)
  · rw [upd_ne _ _ n4]; exact hd
  · obtain ⟨g, e1, e2⟩ := h.c0 u (by rwa [upd_ne _ _ n1] at hu) (by rwa [upd_ne _ _ n2] at e)
    exact ⟨g, e1, own e2⟩
  · exact own (h.c1 u (by rwa [upd_ne _ _ n2] at hu) (by rwa [upd_ne _ _ n3] at e))
  · obtain ⟨A, d, e1, e2⟩ := h.c2 u (by rwa [upd_ne _ _ n3] at hu)
    exact ⟨A, d, e1, own e2⟩
  · rw [upd_ne _ _ n3]; exact h.c3 u (by rwa [upd_ne _ _ n4] at hu)
  · exact ⟨u2, u3, by rw [upd_ne _ _ n3]; exact h2, hm, hb⟩
/-- At the end. -/
theorem LsW.fin (h : LsW b a1 a2 bd gb w0 l i mk r w) (hr : r 15 ≠ none) : ∃ A d u3, r a2 = some (.slice A (cutL l i).length d) ∧ OwN w w0.heap.size (.slice A (cutL l i).length d) (cutL l i) ∧ mk (.slice A (cutL l i).length d) = .agg u3 ∧ w.heap[gb]? = some (.cells u3 30 (0, 0)) ∧ Kp (Kq.One gb) w0 w := by
  obtain ⟨u2, u3, h1, h2, h3⟩ := h.c4 hr
  obtain ⟨A, d, rfl, ho⟩ := h.c2 u2 h1
  exact ⟨A, d, u3, h1, ho, h2, h3, h.k1⟩
end
end Go.Proofs.Ytpkbpeeelpgmcaa

namespace Go.Proofs.Ytpkbpeeelpgmcaa
open Go.RowKit Go.Kq Go.Flow

theorem allB_nat (xs ys : List Nat) : allB (xs.map Int.ofNat) (ys.map Int.ofNat) = inL ys xs := by
  unfold allB inL
  rw [List.all_map]
  congr 1
  funext y
  show decide ((y : Int) ∈ xs.map Int.ofNat) = decide (y ∈ xs)
  rw [Bool.eq_iff_iff, decide_eq_true_eq, decide_eq_true_eq]
  constructor
  · intro h
    obtain ⟨x, hx, e⟩ := List.mem_map.1 h
    have : x = y := by simp at e; omega
    exact this ▸ hx
  · intro h
    exact List.mem_map.2 ⟨y, h, rfl⟩
set_option maxHeartbeats 4000000 in
set_option maxRecDepth 100000 in
theorem lcontains_any (v y : Cv) (w : World) (hv : CvIs w v) (hy : CvIs w y) (h1 : v.p ≤ 100000) (h2 : v.q ≤ 100000) (h3 : y.p ≤ 100000) (h4 : y.q ≤ 100000) :
    Calls Try.prog 12 #[v.val, y.val] w fun e w' => e = .returned (.bool (y.c.inB v.c)) ∧ Kp No w w' := by
  obtain ⟨P, p, cp, Q, q, cq, ⟨xs, xk⟩⟩ := v
  obtain ⟨P', p', cp', Q', q', cq', ⟨ys, yk⟩⟩ := y
  simp only [Cv.val, CvIs] at *
  have HE := Lib.hid (show Cb.inB ⟨ys, yk⟩ ⟨xs, xk⟩ = (inL ys xs && inL yk xk) from rfl)
  obtain ⟨w1, hw1⟩ : ∃ w1, (w.alloc (.cells #[.slice P p cp, .slice Q q cq] 30)).alloc (.cells #[.slice P' p' cp', .slice Q' q' cq'] 30) = w1 := ⟨_, rfl⟩
  have k1 : Kp No w w1 := by rw [← hw1]; exact (Kp.alloc _ _ _).tr (Kp.alloc _ _ _)
  have HX := Lib.hid (show w1.heap[w.heap.size]? = some (.cells #[.slice P p cp, .slice Q q cq] 30 (0, 0)) by rw [← hw1]; exact (Kp.alloc No _ _).heap (heap_alloc_new w _) id)
  have HY := Lib.hid (show w1.heap[w.heap.size + 1]? = some (.cells #[.slice P' p' cp', .slice Q' q' cq'] 30 (0, 0)) by
    rw [← hw1]
    have := heap_alloc_new (w.alloc (.cells #[.slice P p cp, .slice Q q cq] 30)) (.cells #[.slice P' p' cp', .slice Q' q' cq'] 30)
    simpa using this)
  obtain ⟨x0, x1, _, _⟩ := cell_head HX.out
  obtain ⟨y0, y1, _, _⟩ := cell_head HY.out
  have S0 := all_any P P' p cp p' cp' (xs.map Int.ofNat) (ys.map Int.ofNat) w1 (hv.1.no k1) (hy.1.no k1) (by omega) (by omega)
  have WK := fun W (k : Kp No w1 W) => all_any Q Q' q cq q' cq' (xk.map Int.ofNat) (yk.map Int.ofNat) W ((hv.2.no k1).no k) ((hy.2.no k1).no k) (by omega) (by omega)
  rw [allB_nat] at S0
  simp only [allB_nat] at WK
  replace S0 := Lib.hid S0
  replace WK := Lib.hid WK
  have K1 := Lib.hid k1
  clear k1 hv hy
  go_enter Try.func12, Try.ntmps12
  cases hq : inL ys xs with
  | false =>
    rw [hq] at HE S0
    clear hq
    go_wp2_with fail
    with_reducible refine S0.out.mono ?_
    rintro e w2 ⟨rfl, k2⟩
    go_wp2_with fail
    go_ret
    exact ⟨by rw [HE.out]; rfl, K1.out.tr k2⟩
  | true =>
    rw [hq] at HE S0
    clear hq
    go_wp2_with fail
    with_reducible refine S0.out.mono ?_
    rintro e w2 ⟨rfl, k2⟩
    have K2 := Lib.hid (WK.out _ k2)
    have KK := Lib.hid (K1.out.tr k2)
    have HX2 := k2.heap HX.out id
    have HY2 := k2.heap HY.out id
    clear x0 x1 y0 y1 k2
    obtain ⟨x0, x1, _, _⟩ := cell_head HX2
    obtain ⟨y0, y1, _, _⟩ := cell_head HY2
    clear HX2 HY2
    go_wp2_with fail
    with_reducible refine K2.out.mono ?_
    rintro e w3 ⟨rfl, k3⟩
    go_wp2_with fail
    go_ret
    exact ⟨by rw [HE.out]; rfl, KK.out.tr k3⟩
end Go.Proofs.Ytpkbpeeelpgmcaa
