/- Chapter 15: the document's Least: plain, and the invariants of its drawn regions. -/
import Derived.Test.YtpkbpeeelpgmcaaGreatXRsA
import Derived.Test.YtpkbpeeelpgmcaaGreatXLesIM
import Derived.Test.YtpkbpeeelpgmcaaGreatXSubRM
namespace Go.Proofs.YtpkbpeeelpgmcaaGreat
open Go.RowKit Go.Kq Go.Flow

/-! ## The row of all sets -/
def isR (T : Nat) (q : Nat → Bool) (t : Nat) : List Value := (List.range T).map fun i => .bool (decide (i < t) && q i)
theorem isR_zero (T : Nat) (q : Nat → Bool) : isR T q 0 = List.replicate T (Value.bool false) := by
  unfold isR
  apply List.ext_getElem (by simp)
  intro i h1 h2
  simp
theorem isR_at {T i : Nat} (h : i < T) (q : Nat → Bool) (t : Nat) : (isR T q t)[i]? = some (.bool (decide (i < t) && q i)) := by
  unfold isR
  rw [List.getElem?_map, List.getElem?_range h]
  rfl
theorem isR_set {T t : Nat} (q : Nat → Bool) : (isR T q t).set t (.bool (q t)) = isR T q (t + 1) := by
  unfold isR
  apply List.ext_getElem (by simp)
  intro i h1 h2
  rw [List.getElem_set]
  by_cases e : t = i
  · subst e
    simp
  · by_cases hlt : i < t
    · have : i < t + 1 := by omega
      simp [e, hlt, this]
    · have : ¬ i < t + 1 := by omega
      simp [e, hlt, this]
/-- The first k elements of a set: none of them can be left out. -/
def refT (S K : Nat) (p : Cb → Bool) (set k : Nat) : Bool := p (cbOf S K set) && (List.range k).all fun i => !(set.testBit i && p (cbOf S K (set - 2 ^ i)))
theorem refT_zero (S K : Nat) (p : Cb → Bool) (set : Nat) : refT S K p set 0 = p (cbOf S K set) := by simp [refT]
theorem refT_succ (S K : Nat) (p : Cb → Bool) (set k : Nat) : refT S K p set (k + 1) = (refT S K p set k && !(set.testBit k && p (cbOf S K (set - 2 ^ k)))) := by
  unfold refT
  rw [List.range_succ, List.all_append]
  simp [Bool.and_assoc]
theorem refT_all (S K : Nat) (p : Cb → Bool) (set : Nat) : refT S K p set (S + K) = refL S K p set := rfl
/-! ## A region that stores one cell of a row -/
structure RsW (base : World) (g j : Nat) (vz : Value) (st : Nat) (F : Nat → World → Value → Prop) (r : Nat → Option Value) (w : World) : Prop where
  kp : r st = none → Kp No base w
  k1 : Kp (Kq.One g) base w
  b1 : r st ≠ none → ∃ wm, Kp No base wm ∧ Kp No (wm.setCell ⟨g, j, none⟩ vz) w
  hv : ∀ i u, r i = some u → F i w u
section
variable {base w w' : World} {g j st : Nat} {vz : Value} {F : Nat → World → Value → Prop} {r : Nat → Option Value}
theorem RsW.start : RsW base g j vz st F (fun _ => none) base.drew := ⟨fun _ => Kp.drew _ _, Kp.drew _ _, fun e => absurd rfl e, fun _ _ h => (by cases h)⟩
theorem RsW.upd (h : RsW base g j vz st F r w) (i : Nat) (v : Value) (hi : i ≠ st) (hf : F i w v) : RsW base g j vz st F (Kq.upd r i v) w := by
  have e1 : Kq.upd r i v st = r st := upd_ne _ _ hi.symm
  refine ⟨by rw [e1]; exact h.kp, h.k1, by rw [e1]; exact h.b1, fun k u hu => ?_⟩
  by_cases e : k = i
  · subst e
    rw [upd_same] at hu
    cases hu
    exact hf
  · rw [upd_ne _ _ e] at hu
    exact h.hv k u hu
theorem RsW.call (h : RsW base g j vz st F r w) (hF : ∀ i u w w', Kp (Kq.One g) w w' → F i w u → F i w' u) (k : Kp No w w') : RsW base g j vz st F r w' :=
  ⟨fun e => (h.kp e).tr k, h.k1.no k, fun e => by
    obtain ⟨wm, h1, h2⟩ := h.b1 e
    exact ⟨wm, h1, h2.tr k⟩, fun i u hu => hF i u w w' k.of_no (h.hv i u hu)⟩
theorem RsW.store (h : RsW base g j vz st F r w) (hF : ∀ i u w w', Kp (Kq.One g) w w' → F i w u → F i w' u) (hr : r st = none) (v : Value) (hf : F st (w.setCell ⟨g, j, none⟩ vz) v) : RsW base g j vz st F (Kq.upd r st v) (w.setCell ⟨g, j, none⟩ vz) := by
  have k : Kp (Kq.One g) w (w.setCell ⟨g, j, none⟩ vz) := kp_setOne _ _ _ _
  refine ⟨fun e => ?_, h.k1.tr k, fun _ => ⟨w, h.kp hr, Kp.refl _ _⟩, fun i u hu => ?_⟩
  · rw [upd_same] at e
    cases e
  · by_cases e : i = st
    · subst e
      rw [upd_same] at hu
      cases hu
      exact hf
    · rw [upd_ne _ _ e] at hu
      exact hF i u _ _ k (h.hv i u hu)
theorem RsW.row (h : RsW base g j vz st F r w) (hr : r st ≠ none) {cs : List Value} {e : TypeId} {mm : Nat × Nat} (hb : base.heap[g]? = some (.cells cs.toArray e mm)) : w.heap[g]? = some (.cells (cs.set j vz).toArray e mm) := by
  obtain ⟨wm, h1, h2⟩ := h.b1 hr
  exact h2.heap (heap_set (h1.heap hb id) _) id
end
theorem NumAt.kp {S : Nat → Prop} {w w' : World} {base : Nat} {v : Value} {l : List Nat} (h : NumAt w base v l) (k : Kp S w w') (hS : ∀ b, S b → b < base) : NumAt w' base v l := by
  obtain ⟨A, c, h1, h2⟩ := h
  exact ⟨A, c, h1, own_kp h2 k fun g hg e => by have := (own_ge h2 hg).1; have := hS g e; omega⟩
/-- A combination that lies in memory of its own. -/
def CvU (w : World) (base : Nat) (c : Cb) (u : Value) : Prop := ∃ y : Cv, u = y.val ∧ y.c = c ∧ CvO w base y
theorem CvU.kp {S : Nat → Prop} {w w' : World} {base : Nat} {c : Cb} {u : Value} (h : CvU w base c u) (k : Kp S w w') (hS : ∀ b, S b → b < base) : CvU w' base c u := by
  obtain ⟨y, h1, h2, h3⟩ := h
  exact ⟨y, h1, h2, own_kp h3.a k fun g hg e => by have := (own_ge h3.a hg).1; have := hS g e; omega, own_kp h3.b k fun g hg e => by have := (own_ge h3.b hg).1; have := hS g e; omega⟩
theorem cvU_of {w : World} {base : Nat} {A B : Value} {xs ys : List Nat} (h1 : NumAt w base A xs) (h2 : NumAt w base B ys) : CvU w base ⟨xs, ys⟩ (.agg #[A, B]) := by
  obtain ⟨a, c, rfl, ho⟩ := h1
  obtain ⟨b, d, rfl, hq⟩ := h2
  exact ⟨⟨a, xs.length, c, b, ys.length, d, ⟨xs, ys⟩⟩, rfl, rfl, ho, hq⟩
/-- What the operations of the region that tests a set give. -/
def FsL (base : Nat) (xs ys : List Nat) (ix : Nat) (wz : World) (u : Value) : Prop := (ix = 5 → NumAt wz base u xs) ∧ (ix = 11 → NumAt wz base u ys) ∧ (ix = 12 → CvU wz base ⟨xs, ys⟩ u)
theorem FsL.kp {base g : Nat} {xs ys : List Nat} (hg : g < base) : ∀ i u w w', Kp (Kq.One g) w w' → FsL base xs ys i w u → FsL base xs ys i w' u := fun _ _ _ _ k h =>
  ⟨fun e => (h.1 e).kp k fun b e => by have e : b = g := e; omega, fun e => (h.2.1 e).kp k fun b e => by have e : b = g := e; omega, fun e => (h.2.2 e).kp k fun b e => by have e : b = g := e; omega⟩
theorem FsL.no {base ix : Nat} {xs ys : List Nat} {w : World} {u : Value} (h1 : ix ≠ 5) (h2 : ix ≠ 11) (h3 : ix ≠ 12) : FsL base xs ys ix w u := ⟨fun e => absurd e h1, fun e => absurd e h2, fun e => absurd e h3⟩
theorem cvs_one : ∀ L : List Cv, ∀ u ∈ L.flatMap Cv.cells, u.oneCell' = true := fun L u hu => by
  obtain ⟨x, _, h⟩ := List.mem_flatMap.1 hu
  unfold Cv.cells at h
  simp at h
  rcases h with rfl | rfl <;> rfl
theorem own_some8 {w : World} {base e size n c k : Nat} {xs : List Value} {ad : Addr} (h : w.ownsRow base e size (.slice (some ad) n c) k xs) : ∃ g, ad = ⟨g, 0, none⟩ := by
  rcases h.2 with ⟨h0, _⟩ | ⟨g, cap, cur, hv, _⟩
  · cases h0
  · cases hv
    exact ⟨g, rfl⟩
/-! ## The region that puts one in its place -/
structure InW (base : World) (xs xc ys : List Value) (n1 n2 : Nat) (r : Nat → Option Value) (w : World) : Prop where
  kp : Kp No base w
  c5 : ∀ u, r 5 = some u → r 9 = none → w.ownsRow base.heap.size 30 2 u 1 xc
  c9 : ∀ u, r 9 = some u → r 10 = none → w.ownsRow base.heap.size 30 2 u n1 (xc ++ ys)
  c10 : ∀ u, r 10 = some u → w.ownsRow base.heap.size 30 2 u n2 (xs ++ (xc ++ ys))
  c11 : ∀ u, r 11 = some u → r 10 = some u
  o9 : r 9 ≠ none → r 5 ≠ none ∧ r 8 ≠ none
  o10 : r 10 ≠ none → r 9 ≠ none ∧ r 3 ≠ none
  o8 : r 8 ≠ none → r 6 ≠ none
  o3 : r 3 ≠ none → r 0 ≠ none
section
variable {base w w' : World} {xs xc ys : List Value} {n1 n2 : Nat} {r : Nat → Option Value}
theorem InW.start : InW base xs xc ys n1 n2 (fun _ => none) base.drew :=
  ⟨Kp.drew _ _, fun _ h => (by cases h), fun _ h => (by cases h), fun _ h => (by cases h), fun _ h => (by cases h), fun e => absurd rfl e, fun e => absurd rfl e, fun e => absurd rfl e, fun e => absurd rfl e⟩
theorem ord_upd {r : Nat → Option Value} {i : Nat} {v : Value} {a b : Nat} (o : r a ≠ none → r b ≠ none) (hi : i = a → r b ≠ none) : Kq.upd r i v a ≠ none → Kq.upd r i v b ≠ none := fun e => by
  by_cases hb : b = i
  · rw [hb, upd_same]; simp
  · rw [upd_ne _ _ hb]
    by_cases ha : a = i
    · exact hi ha.symm
    · exact o (by rwa [upd_ne _ _ ha] at e)
/-- What turns none of the rows. -/
theorem InW.upd (h : InW base xs xc ys n1 n2 r w) (i : Nat) (v : Value) (h5 : i ≠ 5) (h9 : i ≠ 9) (h10 : i ≠ 10) (h11 : i ≠ 11) (h8 : i = 8 → r 6 ≠ none) (h3 : i = 3 → r 0 ≠ none) : InW base xs xc ys n1 n2 (Kq.upd r i v) w where
  kp := h.kp
  c5 := by rw [upd_ne _ _ h5.symm, upd_ne _ _ h9.symm]; exact h.c5
  c9 := by rw [upd_ne _ _ h9.symm, upd_ne _ _ h10.symm]; exact h.c9
  c10 := by rw [upd_ne _ _ h10.symm]; exact h.c10
  c11 := by rw [upd_ne _ _ h11.symm, upd_ne _ _ h10.symm]; exact h.c11
  o9 e := ⟨ord_upd (fun e => (h.o9 e).1) (fun e => absurd e h9) e, ord_upd (fun e => (h.o9 e).2) (fun e => absurd e h9) e⟩
  o10 e := ⟨ord_upd (fun e => (h.o10 e).1) (fun e => absurd e h10) e, ord_upd (fun e => (h.o10 e).2) (fun e => absurd e h10) e⟩
  o8 := ord_upd h.o8 h8
  o3 := ord_upd h.o3 h3
theorem InW.put5 (h : InW base xs xc ys n1 n2 r w) (hr : r 5 = none) (hx : xc.length = 2) {cs : Array Value} (hcs : cs = xc.toArray) : InW base xs xc ys n1 n2 (Kq.upd r 5 (.slice (some ⟨w.heap.size, 0, none⟩) 1 1)) (w.alloc (.cells cs 30)) := by
  subst hcs
  have q9 : r 9 = none := none_of (fun e => (h.o9 e).1) hr
  have q10 : r 10 = none := none_of (fun e => (h.o10 e).1) q9
  have k : Kp No w (w.alloc (.cells xc.toArray 30)) := Kp.alloc _ _ _
  refine ⟨h.kp.tr k, fun u hu _ => ?_, fun u hu => ?_, fun u hu => ?_, fun u hu => ?_, fun e => ?_, fun e => ?_, ord_upd h.o8 (fun e => absurd e (by decide)), ord_upd h.o3 (fun e => absurd e (by decide))⟩
  · rw [upd_same] at hu
    cases hu
    exact own_made w (by rw [hx]) h.kp.size (by unfold maxLen; omega)
  · rw [upd_ne _ _ (by decide), q9] at hu; cases hu
  · rw [upd_ne _ _ (by decide), q10] at hu; cases hu
  · rw [upd_ne _ _ (by decide)] at hu
    rw [upd_ne _ _ (by decide)]
    exact h.c11 u hu
  · rw [upd_ne _ _ (by decide), q9] at e; exact absurd rfl e
  · rw [upd_ne _ _ (by decide), q10] at e; exact absurd rfl e
theorem InW.put9 (h : InW base xs xc ys n1 n2 r w) (hr : r 9 = none) (h5 : r 5 ≠ none) (h8 : r 8 ≠ none) {u v : Value} {n : Nat} {zs : List Value} (ho0 : w.ownsRow base.heap.size 30 2 u n zs) (ho : w'.ownsRow base.heap.size 30 2 v n1 (xc ++ ys)) (hg : w.grownBy w' u.ownBlock) : InW base xs xc ys n1 n2 (Kq.upd r 9 v) w' := by
  have q10 : r 10 = none := none_of (fun e => (h.o10 e).1) hr
  refine ⟨grown_no h.kp ho0 (Nat.le_refl _) hg, fun u hu e => ?_, fun u hu _ => ?_, fun u hu => ?_, fun u hu => ?_, fun _ => ?_, fun e => ?_, ord_upd h.o8 (fun e => absurd e (by decide)), ord_upd h.o3 (fun e => absurd e (by decide))⟩
  · rw [upd_same] at e; cases e
  · rw [upd_same] at hu
    cases hu
    exact ho
  · rw [upd_ne _ _ (by decide), q10] at hu; cases hu
  · rw [upd_ne _ _ (by decide)] at hu
    rw [upd_ne _ _ (by decide)]
    exact h.c11 u hu
  · rw [upd_ne _ _ (by decide), upd_ne _ _ (by decide)]
    exact ⟨h5, h8⟩
  · rw [upd_ne _ _ (by decide), q10] at e; exact absurd rfl e
theorem InW.put10 (h : InW base xs xc ys n1 n2 r w) (hr : r 10 = none) (h9 : r 9 ≠ none) (h3 : r 3 ≠ none) {v : Value} (ho : w'.ownsRow base.heap.size 30 2 v n2 (xs ++ (xc ++ ys))) (hk : Kp No w w') : InW base xs xc ys n1 n2 (Kq.upd r 10 v) w' := by
  have q11 : r 11 = none := by
    cases e : r 11 with
    | none => rfl
    | some u => have := h.c11 u e; rw [hr] at this; cases this
  refine ⟨h.kp.tr hk, fun u hu e => ?_, fun u hu e => ?_, fun u hu => ?_, fun u hu => ?_, fun _ => ?_, fun _ => ?_, ord_upd h.o8 (fun e => absurd e (by decide)), ord_upd h.o3 (fun e => absurd e (by decide))⟩
  · rw [upd_ne _ _ (by decide)] at e; exact absurd e h9
  · rw [upd_same] at e; cases e
  · rw [upd_same] at hu
    cases hu
    exact ho
  · rw [upd_ne _ _ (by decide), q11] at hu; cases hu
  · rw [upd_ne _ _ (by decide), upd_ne _ _ (by decide)]
    exact h.o9 h9
  · rw [upd_ne _ _ (by decide), upd_ne _ _ (by decide)]
    exact ⟨h9, h3⟩
theorem InW.put11 (h : InW base xs xc ys n1 n2 r w) {v : Value} (h10 : r 10 = some v) : InW base xs xc ys n1 n2 (Kq.upd r 11 v) w := by
  refine ⟨h.kp, by rw [upd_ne _ _ (by decide), upd_ne _ _ (by decide)]; exact h.c5, by rw [upd_ne _ _ (by decide), upd_ne _ _ (by decide)]; exact h.c9, by rw [upd_ne _ _ (by decide)]; exact h.c10, fun u hu => ?_, ?_, ?_, ord_upd h.o8 (fun e => absurd e (by decide)), ord_upd h.o3 (fun e => absurd e (by decide))⟩
  · rw [upd_same] at hu
    cases hu
    rw [upd_ne _ _ (by decide)]
    exact h10
  · rw [upd_ne _ _ (by decide), upd_ne _ _ (by decide), upd_ne _ _ (by decide)]; exact h.o9
  · rw [upd_ne _ _ (by decide), upd_ne _ _ (by decide), upd_ne _ _ (by decide)]; exact h.o10
theorem InW.n11 (h : InW base xs xc ys n1 n2 r w) (h10 : r 10 = none) : r 11 = none := by
  cases e : r 11 with
  | none => rfl
  | some u => have := h.c11 u e; rw [h10] at this; cases this
theorem InW.yet0 (h : InW base xs xc ys n1 n2 r w) (hr : r 0 = none) : r 11 = none := h.n11 (none_of (fun e => (h.o10 e).2) (none_of h.o3 hr))
theorem InW.yet6 (h : InW base xs xc ys n1 n2 r w) (hr : r 6 = none) : r 11 = none := h.n11 (none_of (fun e => (h.o10 e).1) (none_of (fun e => (h.o9 e).2) (none_of h.o8 hr)))
end
end Go.Proofs.YtpkbpeeelpgmcaaGreat
