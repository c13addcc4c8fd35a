/- Rows of fractions: plain facts. · Boxes that a region makes and fills in whatever order: an invariant for wp_region_each. No program in sight. -/
import Derived.Test.YtakgcnjpmpcekaaGreatXNtr
import Derived.Test.YtakgcnjpmpcekaaGreatXLibReg
import Derived.Test.YtakgcnjpmpcekaaGreatXLibAppM
namespace Go.Proofs.YtakgcnjpmpcekaaGreat
open Go.RowKit Go.Kq

/-- The block of limbs of a number that has some. -/
def NatBlk (v : Value) (b : Nat) : Prop := ∃ o n c, v = .slice (some ⟨b, o, none⟩) n c ∧ 0 < n
theorem IsNat.kpB {S : Nat → Prop} {w w' : World} {v : Value} {N k : Nat} (h : IsNat w v N k) (hk : Kp S w w') (hS : ∀ b, NatBlk v b → ¬ S b) : IsNat w' v N k := by
  obtain ⟨A, n, c, l, rfl, h2, h3⟩ := h
  refine ⟨A, n, c, l, rfl, ⟨h2.len, fun i x hx => ?_, h2.small⟩, h3⟩
  have hi := (List.getElem?_eq_some_iff.1 hx).1
  have hl := h2.len
  obtain ⟨b, o, hA, hb, hc⟩ := h2.at_ i x hx
  subst hA
  exact ⟨b, o, rfl, Nat.lt_of_lt_of_le hb hk.size, hk.cell hc (hS b ⟨o, n, c, rfl, by omega⟩)⟩
theorem IsNat.blk {w : World} {v : Value} {N k b : Nat} (h : IsNat w v N k) (hb : NatBlk v b) : b < w.heap.size := by
  obtain ⟨A, n, c, l, rfl, h2, h3⟩ := h
  obtain ⟨o, n', c', e, hn⟩ := hb
  injection e with e1 e2 e3
  subst e1 e2
  have hl := h2.len
  obtain ⟨x, hx⟩ : ∃ x, l[0]? = some x := ⟨_, List.getElem?_eq_getElem (by omega)⟩
  obtain ⟨b', o', hA, hb, _⟩ := h2.at_ 0 x hx
  injection hA with hA
  injection hA with hA
  omega
theorem FreshV.blk {g b : Nat} {v : Value} (h : FreshV g v) (hb : NatBlk v b) : g ≤ b := by
  obtain ⟨o, n, c, rfl, _⟩ := hb
  exact h b rfl
def qC (e : Bool × Value × Value) : List Value := [.bool e.1, e.2.1, e.2.2]
theorem qC_len (e : Bool × Value × Value) : (qC e).length = 3 := rfl
/-- A row of fractions. -/
structure QEl (wr : World) (v : Value) (K : Nat) (e : Bool × Value × Value) (q : Rat) : Prop where
  s : e.1 = negQ q
  n : IsNat wr e.2.1 q.num.natAbs K
  d : IsNat wr e.2.2 q.den K
  nb : ∀ b, NatBlk e.2.1 b → v.ownBlock ≠ some b
  db : ∀ b, NatBlk e.2.2 b → v.ownBlock ≠ some b
def RowQ (base : Nat) (wr : World) (v : Value) (qs : List Rat) (K : Nat) : Prop := ∃ es : List (Bool × Value × Value), es.length = qs.length ∧ wr.ownsRow base 89 3 v qs.length (es.flatMap qC) ∧ ∀ (i : Nat) e q, es[i]? = some e → qs[i]? = some q → QEl wr v K e q
theorem RowQ.nil (base : Nat) (w : World) (K : Nat) : RowQ base w (.slice none 0 0) [] K := ⟨[], rfl, World.ownsRow_nil w _ _ _, fun i e q h => by simp at h⟩
theorem QEl.no {w w' : World} {v : Value} {K : Nat} {e : Bool × Value × Value} {q : Rat} (h : QEl w v K e q) (hk : Kp No w w') : QEl w' v K e q := ⟨h.s, h.n.no hk, h.d.no hk, h.nb, h.db⟩
theorem RowQ.no {base : Nat} {w w' : World} {v : Value} {qs : List Rat} {K : Nat} (h : RowQ base w v qs K) (hk : Kp No w w') : RowQ base w' v qs K := by
  obtain ⟨es, h1, h2, h3⟩ := h
  exact ⟨es, h1, own_kp h2 hk (fun _ _ h => h), fun i e q he hq => (h3 i e q he hq).no hk⟩
theorem RowQ.kp {S : Nat → Prop} {base : Nat} {w w' : World} {v : Value} {qs : List Rat} {K : Nat} (h : RowQ base w v qs K) (hk : Kp S w w') (hS : ∀ k, k < w.heap.size → ¬ S k) : RowQ base w' v qs K := h.no (hk.mono fun k h1 h2 => hS k h1 h2)
theorem RowQ.form {base : Nat} {w : World} {v : Value} {qs : List Rat} {K : Nat} (h : RowQ base w v qs K) : ∃ a c, v = .slice a qs.length c ∧ qs.length ≤ c ∧ c ≤ maxLen := by
  obtain ⟨es, h1, h2, h3⟩ := h
  obtain ⟨a, c, h4, h5, h6, _⟩ := own_form h2
  exact ⟨a, c, h4, h5, h6⟩
theorem RowQ.snoc {base : Nat} {wr w1 w5 : World} {v v' : Value} {qs : List Rat} {q : Rat} {K B : Nat} {n d : Value} {m : Nat} (hm : qs.length = m) (hw : Kp No wr w1) (hn : IsNew (B + 1) w1 n q.num.natAbs K) (hd : IsNew (B + 1) w1 d q.den K) (hB : wr.heap.size ≤ B)
    (hgrow : w1.grownBy w5 v.ownBlock) (hat : v'.ownBlock = v.ownBlock ∨ v'.ownBlock = some w1.heap.size) (es : List (Bool × Value × Value)) (he1 : es.length = qs.length) (he2 : wr.ownsRow base 89 3 v m (es.flatMap qC)) (he3 : ∀ (i : Nat) e q, es[i]? = some e → qs[i]? = some q → QEl wr v K e q)
    (hown : w5.ownsRow base 89 3 v' (m + 1) (es.flatMap qC ++ [.bool (negQ q), n, d])) : RowQ base w5 v' (qs ++ [q]) K := by
  subst hm
  have hk : Kp (fun k => v.ownBlock = some k) w1 w5 := Kp.grown hgrow fun k hk _ => hk
  have fresh : ∀ b, NatBlk n b ∨ NatBlk d b → v.ownBlock ≠ some b := fun b hb e => by
    have h1 := (own_ge he2 e).2
    rcases hb with hb | hb
    · have := hn.2.blk hb; omega
    · have := hd.2.blk hb; omega
  have turn : ∀ x : Value, (∀ b, NatBlk x b → v.ownBlock ≠ some b) → (∀ b, NatBlk x b → b < w1.heap.size) → ∀ b, NatBlk x b → v'.ownBlock ≠ some b := fun x h1 h2 b hb e => by
    rcases hat with hat | hat
    · exact h1 b hb (hat ▸ e)
    · rw [hat] at e
      have := h2 b hb
      injection e with e
      omega
  refine ⟨es ++ [(negQ q, n, d)], by simp [he1], by simpa [qC] using hown, fun i e r he hr => ?_⟩
  rcases Nat.lt_or_ge i es.length with hi | hi
  · rw [List.getElem?_append_left hi] at he
    rw [List.getElem?_append_left (by omega)] at hr
    have hE := (he3 i e r he hr).no hw
    exact ⟨hE.s, hE.n.kpB hk (fun b hb e => hE.nb b hb e), hE.d.kpB hk (fun b hb e => hE.db b hb e), turn _ hE.nb (fun b hb => hE.n.blk hb), turn _ hE.db (fun b hb => hE.d.blk hb)⟩
  · rw [List.getElem?_append_right hi] at he
    rw [List.getElem?_append_right (by omega)] at hr
    have h0 : i - es.length = 0 := by
      rcases Nat.eq_zero_or_pos (i - es.length) with h | h
      · exact h
      · rw [List.getElem?_eq_none (by simp; omega)] at he
        cases he
    rw [h0] at he
    rw [← he1, h0] at hr
    simp at he hr
    subst he hr
    exact ⟨rfl, hn.1.kpB hk (fun b hb e => fresh b (.inl hb) e), hd.1.kpB hk (fun b hb e => fresh b (.inr hb) e), turn _ (fun b hb => fresh b (.inl hb)) (fun b hb => hn.1.blk hb), turn _ (fun b hb => fresh b (.inr hb)) (fun b hb => hd.1.blk hb)⟩
/-- Fractions that lie in memory one behind the other, of at most K limbs. -/
def QAtK (K : Nat) (w : World) (b : Nat) (qs : List Rat) : Prop := ∀ (i : Nat) q, qs[i]? = some q → ∃ n d, w.cell? ⟨b, i * 3, none⟩ = some (.bool (negQ q)) ∧ w.cell? ⟨b, i * 3 + 1, none⟩ = some n ∧ w.cell? ⟨b, i * 3 + 2, none⟩ = some d ∧ IsQuo w (.agg #[.bool (negQ q), n, d]) q K
theorem RowQ.at_ {base : Nat} {w : World} {v : Value} {qs : List Rat} {K : Nat} (h : RowQ base w v qs K) (hp : 0 < qs.length) : ∃ g c, v = .slice (some ⟨g, 0, none⟩) qs.length c ∧ QAtK K w g qs := by
  obtain ⟨es, h1, h2, h3⟩ := h
  obtain ⟨a, c, rfl, _, _, h6⟩ := own_form h2
  obtain ⟨g, rfl⟩ := h6 hp
  refine ⟨g, c, rfl, fun i q hq => ?_⟩
  have hi := (List.getElem?_eq_some_iff.1 hq).1
  obtain ⟨e, he⟩ : ∃ e, es[i]? = some e := ⟨_, List.getElem?_eq_getElem (by omega)⟩
  have hE := h3 i e q he hq
  have c0 := own_cell h2 (flat_at qC_len es i e 0 _ he rfl)
  have c1 := own_cell h2 (flat_at qC_len es i e 1 _ he rfl)
  have c2 := own_cell h2 (flat_at qC_len es i e 2 _ he rfl)
  rw [hE.s] at c0
  exact ⟨e.2.1, e.2.2, c0, c1, c2, ⟨_, _, rfl, hE.n, hE.d⟩⟩
theorem QuoNew.le {g : Nat} {w : World} {v : Value} {q : Rat} {k k' : Nat} (h : QuoNew g w v q k) (hk : k ≤ k') : QuoNew g w v q k' := by
  obtain ⟨n, d, h1, h2, h3⟩ := h
  exact ⟨n, d, h1, ⟨h2.1.le hk, h2.2⟩, ⟨h3.1.le hk, h3.2⟩⟩
theorem newsQ (w : World) (a b c : Value) (t : TypeId) : ∀ j u, [a, b, c][j]? = some u → (w.alloc (.cells #[a, b, c] t)).cell? ((⟨w.heap.size, 0, none⟩ : Addr).add j) = some u := by
  intro j u hu
  rw [add_at, Nat.zero_add, cell_of_row _ _ _ _ _ _ (heap_alloc_new w _)]
  simpa using hu
theorem infoQ : (Tryz.prog.info? 89).map (fun i => (i.zero, i.size, i.bytes)) = some (some (.agg #[.bool false, .slice none 0 0, .slice none 0 0]), 3, 56) := by kernel_rfl
theorem row_ints {w : World} {g : Nat} {t : TypeId} {a b : Int} (h : w.heap[g]? = some (.cells #[.int .i64 a, .int .i64 b] t (0, 0))) (i : Nat) (x : Int) (hx : [a, b][i]? = some x) : w.cell? ⟨g, i, none⟩ = some (.int .i64 x) := by
  match i, hx with
  | 0, hx => simp at hx; subst hx; rw [cell_of_row _ _ _ _ _ _ h]; rfl
  | 1, hx => simp at hx; subst hx; rw [cell_of_row _ _ _ _ _ _ h]; rfl
  | i + 2, hx => simp at hx

end Go.Proofs.YtakgcnjpmpcekaaGreat

namespace Go.Kq
open Go.RowKit

/-- A box: operation a makes it, with the cells zero; operation s fills it: then it has the cells full. v: what operation a gives. -/
structure Bx where
  a : Nat
  s : Nat
  t : TypeId
  zero : Array Value
  full : Array Value
  v : Nat → Value
def ptrV (g : Nat) : Value := .pointer (some ⟨g, 0, none⟩)
def slcV (n : Nat) (g : Nat) : Value := .slice (some ⟨g, 0, none⟩) n n
theorem ptrV_inj {a b : Nat} (h : ptrV a = ptrV b) : a = b := by
  unfold ptrV at h
  injection h with h
  injection h with h
  injection h
theorem slcV_inj (n : Nat) {a b : Nat} (h : slcV n a = slcV n b) : a = b := by
  unfold slcV at h
  injection h with h
  injection h with h
  injection h
/-- The numbers of operations are apart. -/
def apartL (L : List Bx) : Bool := decide ((L.map (·.a) ++ L.map (·.s)).Nodup)
structure BxW (w1 : World) (L : List Bx) (r : Nat → Option Value) (w : World) : Prop where
  kp : Kp No w1 w
  box : ∀ x ∈ L, ∀ u, r x.a = some u → ∃ g, u = x.v g ∧ w1.heap.size ≤ g ∧ g < w.heap.size ∧ w.heap[g]? = some (.cells (if (r x.s).isSome then x.full else x.zero) x.t (0, 0))
  ne : ∀ x ∈ L, ∀ y ∈ L, x.a ≠ y.a → ∀ g h, r x.a = some (x.v g) → r y.a = some (y.v h) → g ≠ h
  had : ∀ x ∈ L, r x.s ≠ none → r x.a ≠ none
section
variable {w1 w w' : World} {L : List Bx} {r : Nat → Option Value}
theorem BxW.start (w1 : World) (L : List Bx) : BxW w1 L (fun _ => none) w1.drew :=
  ⟨Kp.drew _ _, fun _ _ _ h => (by cases h), fun _ _ _ _ _ _ _ h => (by cases h), fun _ _ h => absurd rfl h⟩
def freeOf (L : List Bx) (i : Nat) : Bool := L.all fun x => decide (x.a ≠ i) && decide (x.s ≠ i)
theorem freeOf_of {i : Nat} (h : freeOf L i = true) {x : Bx} (hx : x ∈ L) : x.a ≠ i ∧ x.s ≠ i := by
  have := List.all_eq_true.1 h x hx
  simpa using this
theorem BxW.upd {i : Nat} (h : BxW w1 L r w) (hf : freeOf L i = true) (v : Value) : BxW w1 L (Kq.upd r i v) w := by
  have e1 : ∀ x ∈ L, Kq.upd r i v x.a = r x.a := fun x hx => upd_ne _ _ (freeOf_of hf hx).1
  have e2 : ∀ x ∈ L, Kq.upd r i v x.s = r x.s := fun x hx => upd_ne _ _ (freeOf_of hf hx).2
  refine ⟨h.kp, fun x hx u hu => ?_, fun x hx y hy hne g k h1 h2 => ?_, fun x hx hs => ?_⟩
  · rw [e1 x hx] at hu
    rw [e2 x hx]
    exact h.box x hx u hu
  · rw [e1 x hx] at h1
    rw [e1 y hy] at h2
    exact h.ne x hx y hy hne g k h1 h2
  · rw [e2 x hx] at hs
    rw [e1 x hx]
    exact h.had x hx hs
theorem BxW.call (h : BxW w1 L r w) (k : Kp No w w') : BxW w1 L r w' :=
  ⟨h.kp.tr k, fun x hx u hu => by
    obtain ⟨g, h1, h2, h3, h4⟩ := h.box x hx u hu
    exact ⟨g, h1, h2, Nat.lt_of_lt_of_le h3 k.size, k.heap h4 id⟩, h.ne, h.had⟩
theorem nodup_idx (hL : apartL L = true) {x y : Bx} (hx : x ∈ L) (hy : y ∈ L) : x.a ≠ y.s ∧ (x.s = y.s → x.a = y.a) := by
  unfold apartL at hL
  rw [decide_eq_true_eq, List.nodup_append] at hL
  obtain ⟨_, h2, h3⟩ := hL
  refine ⟨h3 _ (List.mem_map_of_mem hx) _ (List.mem_map_of_mem hy), fun e => ?_⟩
  obtain ⟨i, hi, hxi⟩ := List.mem_iff_getElem.1 hx
  obtain ⟨j, hj, hyj⟩ := List.mem_iff_getElem.1 hy
  have hij : i = j := by
    have hp := List.pairwise_iff_getElem.1 h2
    rcases Nat.lt_trichotomy i j with h | h | h
    · have := hp i j (by simpa using hi) (by simpa using hj) h
      simp [hxi, hyj, e] at this
    · exact h
    · have := hp j i (by simpa using hj) (by simpa using hi) h
      simp [hxi, hyj, e] at this
  subst hij
  rw [← hxi, ← hyj]
theorem BxW.alloc (h : BxW w1 L r w) (hL : apartL L = true) {x : Bx} (hx : x ∈ L) (hr : r x.a = none) (hv : ∀ y ∈ L, ∀ {p q}, y.v p = y.v q → p = q) (hsame : ∀ y ∈ L, y.a = x.a → y = x) : BxW w1 L (Kq.upd r x.a (x.v w.heap.size)) (w.alloc (.cells x.zero x.t)) := by
  have hs : r x.s = none := by
    cases hs : r x.s with
    | none => rfl
    | some v => exact absurd hr (h.had x hx (by rw [hs]; simp))
  have es : ∀ y ∈ L, Kq.upd r x.a (x.v w.heap.size) y.s = r y.s := fun y hy => upd_ne _ _ (fun e => (nodup_idx hL hx hy).1 e.symm)
  have hnew : (w.alloc (.cells x.zero x.t)).heap[w.heap.size]? = some (.cells x.zero x.t (0, 0)) := heap_alloc_new w _
  refine ⟨h.kp.tr (Kp.alloc _ _ _), fun y hy u hu => ?_, fun y hy z hz hne g k h1 h2 => ?_, fun y hy hys => ?_⟩
  · rw [es y hy]
    by_cases e : y.a = x.a
    · obtain rfl := hsame y hy e
      rw [upd_same] at hu
      cases hu
      refine ⟨_, rfl, h.kp.size, by simp, ?_⟩
      rw [hs]
      exact hnew
    · rw [upd_ne _ _ e] at hu
      obtain ⟨g, q1, q2, q3, q4⟩ := h.box y hy u hu
      exact ⟨g, q1, q2, by simp; omega, (Kp.alloc No w _).heap q4 id⟩
  · by_cases e1 : y.a = x.a
    · obtain rfl := hsame y hy e1
      rw [upd_same] at h1
      rw [upd_ne _ _ (fun e => hne e.symm)] at h2
      obtain ⟨g', q1, _, q3, _⟩ := h.box z hz _ h2
      have e2 := hv y hy (Option.some.inj h1)
      have e3 := hv z hz q1
      omega
    · rw [upd_ne _ _ e1] at h1
      by_cases e2 : z.a = x.a
      · obtain rfl := hsame z hz e2
        rw [upd_same] at h2
        obtain ⟨g', q1, _, q3, _⟩ := h.box y hy _ h1
        have e3 := hv y hy q1
        have e4 := hv z hz (Option.some.inj h2)
        omega
      · rw [upd_ne _ _ e2] at h2
        exact h.ne y hy z hz hne g k h1 h2
  · rw [es y hy] at hys
    have := h.had y hy hys
    by_cases e : y.a = x.a
    · rw [e, upd_same]; simp
    · rw [upd_ne _ _ e]
      exact this
theorem BxW.store (h : BxW w1 L r w) (hL : apartL L = true) {x : Bx} (hx : x ∈ L) {g : Nat} (hr : r x.a = some (x.v g)) (hgl : w1.heap.size ≤ g) (_hv : ∀ y ∈ L, ∀ {p q}, y.v p = y.v q → p = q) (hsame : ∀ y ∈ L, y.a = x.a → y = x) (hk : Kp (One g) w w') (hg : w'.heap[g]? = some (.cells x.full x.t (0, 0))) (v : Value) :
    BxW w1 L (Kq.upd r x.s v) w' := by
  have ea : ∀ y ∈ L, Kq.upd r x.s v y.a = r y.a := fun y hy => upd_ne _ _ (nodup_idx hL hy hx).1
  refine ⟨h.kp.trans hk (fun k hk e => by unfold One at e; omega), fun y hy u hu => ?_, fun y hy z hz hne p q h1 h2 => ?_, fun y hy hys => ?_⟩
  · rw [ea y hy] at hu
    by_cases e : y.a = x.a
    · obtain rfl := hsame y hy e
      rw [hr] at hu
      cases hu
      refine ⟨g, rfl, hgl, (Array.getElem?_eq_some_iff.1 hg).1, ?_⟩
      rw [upd_same]
      exact hg
    · obtain ⟨g', q1, q2, q3, q4⟩ := h.box y hy u hu
      subst q1
      have hne := h.ne y hy x hx e g' g hu hr
      refine ⟨g', rfl, q2, Nat.lt_of_lt_of_le q3 hk.size, ?_⟩
      rw [upd_ne _ _ (fun e2 => e ((nodup_idx hL hy hx).2 e2))]
      exact hk.heap q4 (fun e => hne e)
  · rw [ea y hy] at h1
    rw [ea z hz] at h2
    exact h.ne y hy z hz hne p q h1 h2
  · rw [ea y hy]
    by_cases e : y.s = x.s
    · have := hsame y hy ((nodup_idx hL hy hx).2 e)
      subst this
      rw [hr]
      simp
    · rw [upd_ne _ _ e] at hys
      exact h.had y hy hys
/-- A filled box. -/
theorem BxW.filled (h : BxW w1 L r w) {x : Bx} (hx : x ∈ L) (hs : r x.s ≠ none) : ∃ g, r x.a = some (x.v g) ∧ w1.heap.size ≤ g ∧ g < w.heap.size ∧ w.heap[g]? = some (.cells x.full x.t (0, 0)) := by
  cases ha : r x.a with
  | none => exact absurd ha (h.had x hx hs)
  | some u =>
    obtain ⟨g, rfl, h2, h3, h4⟩ := h.box x hx u ha
    rw [if_pos (Option.isSome_iff_ne_none.2 hs)] at h4
    exact ⟨g, rfl, h2, h3, h4⟩
/-- A box that has not been filled. -/
theorem BxW.empty (h : BxW w1 L r w) {x : Bx} (hx : x ∈ L) (hs : r x.s = none) {u : Value} (hu : r x.a = some u) : ∃ g, u = x.v g ∧ w1.heap.size ≤ g ∧ g < w.heap.size ∧ w.heap[g]? = some (.cells x.zero x.t (0, 0)) := by
  obtain ⟨g, h1, h2, h3, h4⟩ := h.box x hx u hu
  rw [hs] at h4
  exact ⟨g, h1, h2, h3, h4⟩
end
end Go.Kq
