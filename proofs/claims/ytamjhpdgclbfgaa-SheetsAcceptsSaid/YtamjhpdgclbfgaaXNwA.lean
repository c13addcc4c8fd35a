/- Chapter 09: the nest while it is made: its box and its five rows; a region that draws its order and turns two of them. -/
import Derived.Test.YtamjhpdgclbfgaaXLibHvM
import Derived.Test.YtamjhpdgclbfgaaXCspM
import Derived.Test.YtamjhpdgclbfgaaXSpfM
namespace Go.Proofs.Ytamjhpdgclbfgaa
open Go.RowKit Go.Kq

structure Fd where
  (b v : Value) (n : Nat) (xs : List Value)
def ety : Nat → TypeId
  | 0 => 3
  | 1 => 3
  | _ => 2
theorem ety_ne (j : Nat) : ety j ≠ 52 := by
  match j with
  | 0 => decide
  | 1 => decide
  | n + 2 => exact (by decide : (2 : TypeId) ≠ 52)
def natI (k : Nat) : Value := .int .i64 (k : Nat)
def cellsN (P : Pt) (L : Value) (F : Nat → Fd) (bv : Value) (l0 l1 : Int) : Array Value := #[.int .i64 P.w, .int .i64 P.h, .int .i64 P.k, L, (F 0).b, (F 1).b, (F 2).b, (F 3).b, (F 4).b, .int .i64 0, bv, .int .i64 l0, .int .i64 l1]
def BstW (nb : Nat) (bv : Value) (l0 l1 : Int) (B : Bst) (w : World) : Prop :=
  match B with
  | none => bv = .slice none 0 0
  | some (b, c, d) => (∃ g cp, bv = .slice (some ⟨g, 0, none⟩) b.length cp) ∧ w.ownsRow (nb + 1) 52 4 bv b.length (b.flatMap Spo.cells) ∧ l0 = c ∧ l1 = d
theorem BstW.kp {nb : Nat} {bv : Value} {l0 l1 : Int} {B : Bst} {w w' : World} {S : Nat → Prop} (h : BstW nb bv l0 l1 B w) (k : Kp S w w') (hS : ∀ g, bv.ownBlock = some g → w.heap.size > g → ¬ S g) : BstW nb bv l0 l1 B w' := by
  match B, h with
  | none, h => exact h
  | some (b, c, d), h =>
    obtain ⟨h1, h2, h3⟩ := h
    exact ⟨h1, k.owns h2 fun g hg => hS g hg (own_ge h2 hg).2, h3⟩
structure NW (nb : Nat) (P : Pt) (A : Option Addr) (n ca : Nat) (l : List Ct) (F : Nat → Fd) (bv : Value) (l0 l1 : Int) (B : Bst) (w : World) : Prop where
  box : w.heap[nb]? = some (.cells (cellsN P (.slice A n ca) F bv l0 l1) 61 (0, 0))
  own : ∀ j, j < 5 → w.ownsRow (nb + 1) (ety j) 1 (F j).v (F j).n (F j).xs
  ap : ∀ i j, i < 5 → j < 5 → i ≠ j → ∀ g, (F i).v.ownBlock = some g → (F j).v.ownBlock ≠ some g
  bst : BstW nb bv l0 l1 B w
  rd : RdC w A n l
  lo : ∀ b o, A = some ⟨b, o, none⟩ → b < nb
section
variable {nb : Nat} {P : Pt} {A : Option Addr} {n ca : Nat} {l : List Ct} {F F' : Nat → Fd} {bv : Value} {l0 l1 : Int} {B : Bst} {w w' : World}
theorem NW.lt (h : NW nb P A n ca l F bv l0 l1 B w) : nb < w.heap.size := (Array.getElem?_eq_some_iff.1 h.box).1
theorem BstW.blk (h : BstW nb bv l0 l1 B w) {g : Nat} (hg : bv.ownBlock = some g) : nb < g ∧ g < w.heap.size ∧ ∀ j v m (xs : List Value), w.ownsRow (nb + 1) (ety j) 1 v m xs → v.ownBlock ≠ some g := by
  match B, h with
  | none, h =>
    have h' : bv = .slice none 0 0 := h
    rw [h'] at hg
    cases hg
  | some (b, c, d), h =>
    have h2 := h.2.1
    have := own_ge h2 hg
    exact ⟨by omega, this.2, fun j v m xs ho => own_apart h2 ho (fun e => ety_ne j e.symm) hg⟩
theorem NW.kp {S : Nat → Prop} (h : NW nb P A n ca l F bv l0 l1 B w) (k : Kp S w w') (hn : ∀ g, S g → g < w.heap.size → nb < g) (hF : ∀ j, j < 5 → ∀ g, (F j).v.ownBlock = some g → ¬ S g) (hb : ∀ g, bv.ownBlock = some g → ¬ S g) : NW nb P A n ca l F bv l0 l1 B w' :=
  ⟨k.heap h.box fun s => by have := hn nb s h.lt; omega, fun j hj => k.owns (h.own j hj) (hF j hj), h.ap, h.bst.kp k fun g hg _ => hb g hg, h.rd.kp k fun b o hA hl s => by have h1 := hn b s hl; have h2 := h.lo b o hA; omega, h.lo⟩
theorem NW.no (h : NW nb P A n ca l F bv l0 l1 B w) (k : Kp No w w') : NW nb P A n ca l F bv l0 l1 B w' := h.kp k (fun _ s => s.elim) (fun _ _ _ _ s => s) (fun _ _ s => s)
theorem NW.congr (h : NW nb P A n ca l F bv l0 l1 B w) (e : ∀ j, j < 5 → F j = F' j) : NW nb P A n ca l F' bv l0 l1 B w := by
  refine ⟨?_, fun j hj => by rw [← e j hj]; exact h.own j hj, fun i j hi hj hne g => by rw [← e i hi, ← e j hj]; exact h.ap i j hi hj hne g, h.bst, h.rd, h.lo⟩
  have hb := h.box
  unfold cellsN at hb ⊢
  rw [← e 0 (by decide), ← e 1 (by decide), ← e 2 (by decide), ← e 3 (by decide), ← e 4 (by decide)]
  exact hb
def setF (F : Nat → Fd) (p : Nat) (f : Fd) : Nat → Fd := fun j => if j = p then f else F j
theorem setF_same (F : Nat → Fd) (p : Nat) (f : Fd) : setF F p f p = f := if_pos rfl
theorem setF_ne (F : Nat → Fd) {p j : Nat} (f : Fd) (h : j ≠ p) : setF F p f j = F j := if_neg h
theorem NW.app (h : NW nb P A n ca l F bv l0 l1 B w) {p m : Nat} (hp : p < 5) {v' : Value} {xs : List Value} (ho : w'.ownsRow (nb + 1) (ety p) 1 v' m xs) (hg : w.grownBy w' (F p).v.ownBlock) (hat : v'.ownBlock = (F p).v.ownBlock ∨ v'.ownBlock = some w.heap.size) :
    NW nb P A n ca l (setF F p ⟨(F p).b, v', m, xs⟩) bv l0 l1 B w' := by
  have hk : Kp (fun g => (F p).v.ownBlock = some g) w w' := Kp.grown hg fun _ hk _ => hk
  have hblk : ∀ g, (F p).v.ownBlock = some g → nb < g ∧ g < w.heap.size := fun g hg => by have := own_ge (h.own p hp) hg; exact ⟨by omega, this.2⟩
  have h2 : ∀ j, j < 5 → j ≠ p → ∀ g, (F j).v.ownBlock = some g → v'.ownBlock ≠ some g := fun j hj hne g hjg hv => by
    rcases hat with e | e
    · exact h.ap j p hj hp hne g hjg (e ▸ hv)
    · rw [e] at hv
      cases hv
      have := (own_ge (h.own j hj) hjg).2
      omega
  refine ⟨?_, fun j hj => ?_, fun i j hi hj hne g => ?_, h.bst.kp hk fun g hg _ hs => (h.bst.blk hg).2.2 p _ _ _ (h.own p hp) hs, h.rd.kp hk fun b o hA _ s => by have h1 := (hblk b s).1; have h2 := h.lo b o hA; omega, h.lo⟩
  · have hb := hk.heap h.box (fun s => by have := (hblk nb s).1; omega)
    have e : cellsN P (.slice A n ca) (setF F p ⟨(F p).b, v', m, xs⟩) bv l0 l1 = cellsN P (.slice A n ca) F bv l0 l1 := by
      unfold cellsN
      match p, hp with
      | 0, _ => rfl
      | 1, _ => rfl
      | 2, _ => rfl
      | 3, _ => rfl
      | 4, _ => rfl
    rw [e]
    exact hb
  · by_cases e : j = p
    · subst e
      rw [setF_same]
      exact ho
    · rw [setF_ne _ _ e]
      exact hk.owns (h.own j hj) fun g hg hs => h.ap j p hj hp e g hg hs
  · by_cases e1 : i = p
    · subst e1
      rw [setF_same, setF_ne _ _ (fun e => hne e.symm)]
      exact fun hv hj' => h2 j hj (fun e => hne e.symm) g hj' hv
    · rw [setF_ne _ _ e1]
      by_cases e2 : j = p
      · subst e2
        rw [setF_same]
        exact h2 i hi e1 g
      · rw [setF_ne _ _ e2]
        exact h.ap i j hi hj hne g
theorem NW.put (h : NW nb P A n ca l F bv l0 l1 B w) {p : Nat} (hp : p < 5) (u : Value) : NW nb P A n ca l (setF F p ⟨u, (F p).v, (F p).n, (F p).xs⟩) bv l0 l1 B (w.setCell ⟨nb, p + 4, none⟩ u) := by
  have hk : Kp (One nb) w (w.setCell ⟨nb, p + 4, none⟩ u) := kp_setOne _ _ _ _
  have hv : ∀ j, (setF F p ⟨u, (F p).v, (F p).n, (F p).xs⟩ j).v = (F j).v ∧ (setF F p ⟨u, (F p).v, (F p).n, (F p).xs⟩ j).n = (F j).n ∧ (setF F p ⟨u, (F p).v, (F p).n, (F p).xs⟩ j).xs = (F j).xs := fun j => by
    by_cases e : j = p
    · subst e; rw [setF_same]; exact ⟨rfl, rfl, rfl⟩
    · rw [setF_ne _ _ e]; exact ⟨rfl, rfl, rfl⟩
  refine ⟨?_, fun j hj => ?_, fun i j hi hj hne g => ?_, h.bst.kp hk fun g hg _ hs => by have := (h.bst.blk hg).1; have e : g = nb := hs; omega, h.rd.kp hk fun b o hA _ s => by have h2 := h.lo b o hA; have e : b = nb := s; omega, h.lo⟩
  · have e : cellsN P (.slice A n ca) (setF F p ⟨u, (F p).v, (F p).n, (F p).xs⟩) bv l0 l1 = (cellsN P (.slice A n ca) F bv l0 l1).setIfInBounds (p + 4) u := by
      unfold cellsN
      match p, hp with
      | 0, _ => rfl
      | 1, _ => rfl
      | 2, _ => rfl
      | 3, _ => rfl
      | 4, _ => rfl
    rw [e]
    simp [World.setCell, Array.getElem?_modify, h.box]
  · rw [(hv j).1, (hv j).2.1, (hv j).2.2]
    exact hk.owns (h.own j hj) fun g hg hs => by have := (own_ge (h.own j hj) hg).1; have e : g = nb := hs; omega
  · rw [(hv i).1, (hv j).1]
    exact h.ap i j hi hj hne g
theorem NW.set (h : NW nb P A n ca l F bv l0 l1 B w) {p : Nat} (hp : p < 5) {g m cap : Nat} (hv : (F p).v = .slice (some ⟨g, 0, none⟩) m cap) (hm : (F p).n = m) (k : Nat) (x : Value) : NW nb P A n ca l (setF F p ⟨(F p).b, (F p).v, (F p).n, (F p).xs.set k x⟩) bv l0 l1 B (w.setCell ⟨g, k, none⟩ x) := by
  subst hm
  have hk : Kp (One g) w (w.setCell ⟨g, k, none⟩ x) := kp_setOne _ _ _ _
  have hg : (F p).v.ownBlock = some g := by rw [hv]; rfl
  have hge := own_ge (h.own p hp) hg
  refine ⟨?_, fun j hj => ?_, fun i j hi hj hne g' => ?_, h.bst.kp hk fun g' hg' _ hs => by have e : g' = g := hs; subst e; exact (h.bst.blk hg').2.2 p _ _ _ (h.own p hp) hg, h.rd.kp hk fun b o hA _ s => by have h2 := h.lo b o hA; have e : b = g := s; omega, h.lo⟩
  · have e : cellsN P (.slice A n ca) (setF F p ⟨(F p).b, (F p).v, (F p).n, (F p).xs.set k x⟩) bv l0 l1 = cellsN P (.slice A n ca) F bv l0 l1 := by
      unfold cellsN
      match p, hp with
      | 0, _ => rfl
      | 1, _ => rfl
      | 2, _ => rfl
      | 3, _ => rfl
      | 4, _ => rfl
    rw [e]
    exact hk.heap h.box (fun s => by have e : nb = g := s; omega)
  · by_cases e : j = p
    · subst e
      rw [setF_same]
      have ho := h.own j hp
      rw [hv] at ho
      have := own_set ho k x
      rw [← hv] at this
      exact this
    · rw [setF_ne _ _ e]
      exact hk.owns (h.own j hj) fun g' hg' hs => by have e' : g' = g := hs; subst e'; exact h.ap j p hj hp e g' hg' hg
  · have hvv : ∀ j, (setF F p ⟨(F p).b, (F p).v, (F p).n, (F p).xs.set k x⟩ j).v = (F j).v := fun j => by
      by_cases e : j = p
      · subst e; rw [setF_same]
      · rw [setF_ne _ _ e]
    rw [hvv, hvv]
    exact h.ap i j hi hj hne g'
/-- A row of its own, cut short. -/
theorem own_take {w : World} {base e g m cap k : Nat} {xs : List Value} (h : w.ownsRow base e 1 (.slice (some ⟨g, 0, none⟩) m cap) m xs) (hk : k ≤ m) : w.ownsRow base e 1 (.slice (some ⟨g, 0, none⟩) k cap) k (xs.take k) := by
  obtain ⟨hl, h2⟩ := h
  rcases h2 with ⟨h0, _⟩ | ⟨g', cap', cur, hv, hb, hg, h1, h2, h3, h4⟩
  · cases h0
  · cases hv
    refine ⟨by rw [List.length_take]; omega, .inr ⟨g, cap, cur, rfl, hb, hg, by omega, h2, h3, ?_⟩⟩
    rw [← h4, List.take_take]
    congr 1
    omega
theorem NW.short (h : NW nb P A n ca l F bv l0 l1 B w) {p : Nat} (hp : p < 5) {v' : Value} {m : Nat} {xs : List Value} (hb : (F p).b = v') (ho : w.ownsRow (nb + 1) (ety p) 1 v' m xs) (hat : v'.ownBlock = (F p).v.ownBlock) : NW nb P A n ca l (setF F p ⟨v', v', m, xs⟩) bv l0 l1 B w := by
  have := h.app hp ho (World.grownBy.refl _ _) (.inl hat)
  rw [hb] at this
  exact this
end
/-- What a search may turn: what lies from the nest on, but no cut's box. -/
def Sn (nb : Nat) (w : World) (g : Nat) : Prop := nb ≤ g ∧ ∀ cs m, w.heap[g]? ≠ some (.cells cs 35 m)
theorem sn_step {nb : Nat} {w1 w w' : World} {S : Nat → Prop} (h : Kp (Sn nb w1) w1 w) (k : Kp S w w') (hS : ∀ g, S g → g < w.heap.size → nb ≤ g ∧ ∃ cs t m, w.heap[g]? = some (.cells cs t m) ∧ t ≠ 35) : Kp (Sn nb w1) w1 w' := by
  refine h.trans k fun g hg s => ?_
  obtain ⟨h1, cs, t, m, h2, h3⟩ := hS g s (Nat.lt_of_lt_of_le hg h.size)
  refine ⟨h1, fun cs' m' he => ?_⟩
  have := h.heap he (fun hs => hs.2 _ _ he)
  rw [h2] at this
  injection this with this
  injection this with _ ht _
  exact h3 ht
theorem sn_tr {nb : Nat} {w1 w w' : World} (h : Kp (Sn nb w1) w1 w) (k : Kp (Sn nb w) w w') : Kp (Sn nb w1) w1 w' := by
  refine h.trans k fun g hg s => ⟨s.1, fun cs m he => ?_⟩
  exact s.2 _ _ (h.heap he (fun hs => hs.2 _ _ he))
theorem own_obj {w : World} {base e size n g : Nat} {v : Value} {xs : List Value} (h : w.ownsRow base e size v n xs) (hg : v.ownBlock = some g) : ∃ cur, w.heap[g]? = some (.cells cur e (0, 0)) := by
  rcases h.2 with ⟨rfl, _⟩ | ⟨g', cap, cur, rfl, _, hh, _⟩
  · cases hg
  · cases hg
    exact ⟨cur, hh⟩
theorem ety_cut (j : Nat) : ety j ≠ 35 := by
  match j with
  | 0 => decide
  | 1 => decide
  | n + 2 => exact (by decide : (2 : TypeId) ≠ 35)
/-! ### a region that turns two of the rows -/
def fApp (v0 : Value) (m : Nat) (xs : List Value) (x : Value) (oa os : Option Value) : Fd := ⟨if os.isSome then oa.getD v0 else v0, oa.getD v0, if oa.isSome then m + 1 else m, if oa.isSome then xs ++ [x] else xs⟩
def fRes (v0 v1 : Value) (m : Nat) (xs : List Value) (_oa os : Option Value) : Fd := ⟨if os.isSome then v1 else v0, v0, m, xs⟩
def fSet (v0 : Value) (m : Nat) (xs : List Value) (k : Nat) (x : Value) (_oa os : Option Value) : Fd := ⟨v0, v0, m, if os.isSome then xs.set k x else xs⟩
def F2 (F0 : Nat → Fd) (p q : Nat) (a b : Fd) : Nat → Fd := setF (setF F0 q b) p a
def Tmp (nb : Nat) (F : Nat → Fd) (x u : Value) (w : World) : Prop := ∃ g, u = .slice (some ⟨g, 0, none⟩) 1 1 ∧ nb < g ∧ w.cell? ⟨g, 0, none⟩ = some x ∧ ∀ j, j < 5 → (F j).v.ownBlock ≠ some g
structure Tw (w1 : World) (nb : Nat) (P : Pt) (A : Option Addr) (n ca : Nat) (l : List Ct) (F0 : Nat → Fd) (bv : Value) (l0 l1 : Int) (B : Bst) (p q : Nat) (fp fq : Option Value → Option Value → Fd) (ap sp bp aq sq bq : Nat) (xp xq : Value) (ch : List (Nat × Nat)) (r : Nat → Option Value) (w : World) : Prop where
  kp : Kp (Sn nb w1) w1 w
  nw : NW nb P A n ca l (F2 F0 p q (fp (r ap) (r sp)) (fq (r aq) (r sq))) bv l0 l1 B w
  tp : ∀ u, r bp = some u → r ap = none → Tmp nb (F2 F0 p q (fp (r ap) (r sp)) (fq (r aq) (r sq))) xp u w
  tq : ∀ u, r bq = some u → r aq = none → Tmp nb (F2 F0 p q (fp (r ap) (r sp)) (fq (r aq) (r sq))) xq u w
  bl : ∀ c ∈ ch, r c.1 ≠ none → r c.2 ≠ none
section
variable {w1 : World} {nb : Nat} {P : Pt} {A : Option Addr} {n ca : Nat} {l : List Ct} {F0 : Nat → Fd} {bv : Value} {l0 l1 : Int} {B : Bst} {p q : Nat} {fp fq : Option Value → Option Value → Fd} {ap sp bp aq sq bq : Nat} {xp xq : Value} {ch : List (Nat × Nat)} {r : Nat → Option Value} {w w' : World}
theorem F2_swap (F0 : Nat → Fd) {p q : Nat} (a b : Fd) (h : p ≠ q) : F2 F0 p q a b = F2 F0 q p b a := by
  funext j
  unfold F2 setF
  by_cases e1 : j = p
  · subst e1
    rw [if_pos rfl, if_neg h, if_pos rfl]
  · rw [if_neg e1]
    by_cases e2 : j = q
    · subst e2
      rw [if_pos rfl, if_pos rfl]
    · rw [if_neg e2, if_neg e2, if_neg e1]
theorem Tw.swap (h : Tw w1 nb P A n ca l F0 bv l0 l1 B p q fp fq ap sp bp aq sq bq xp xq ch r w) (hpq : p ≠ q) : Tw w1 nb P A n ca l F0 bv l0 l1 B q p fq fp aq sq bq ap sp bp xq xp ch r w :=
  ⟨h.kp, by rw [← F2_swap F0 _ _ hpq]; exact h.nw, by rw [← F2_swap F0 _ _ hpq]; exact h.tq, by rw [← F2_swap F0 _ _ hpq]; exact h.tp, h.bl⟩
theorem Tw.start (hN : NW nb P A n ca l F0 bv l0 l1 B w1) (hp : fp none none = F0 p) (hq : fq none none = F0 q) : Tw w1 nb P A n ca l F0 bv l0 l1 B p q fp fq ap sp bp aq sq bq xp xq ch (fun _ => none) w1.drew := by
  have e : F2 F0 p q (fp none none) (fq none none) = F0 := by
    funext j
    unfold F2 setF
    by_cases e1 : j = p
    · subst e1
      rw [if_pos rfl, hp]
    · rw [if_neg e1]
      by_cases e2 : j = q
      · subst e2
        rw [if_pos rfl, hq]
      · rw [if_neg e2]
  exact ⟨Kp.drew _ _, by rw [e]; exact hN.no (Kp.drew _ _), fun u h => (by cases h), fun u h => (by cases h), fun _ _ h => absurd rfl h⟩
theorem Tw.back (h : Tw w1 nb P A n ca l F0 bv l0 l1 B p q fp fq ap sp bp aq sq bq xp xq ch r w) {x y : Nat} (hp : (x, y) ∈ ch) (hy : r y = none) : r x = none :=
  Classical.byContradiction fun e => h.bl _ hp e hy
theorem Tw.upd (h : Tw w1 nb P A n ca l F0 bv l0 l1 B p q fp fq ap sp bp aq sq bq xp xq ch r w) (i : Nat) (v : Value) (hi : i ≠ ap ∧ i ≠ sp ∧ i ≠ bp ∧ i ≠ aq ∧ i ≠ sq ∧ i ≠ bq) (hc : ∀ c ∈ ch, c.1 ≠ i) : Tw w1 nb P A n ca l F0 bv l0 l1 B p q fp fq ap sp bp aq sq bq xp xq ch (Kq.upd r i v) w := by
  obtain ⟨i1, i2, i3, i4, i5, i6⟩ := hi
  have e1 := upd_ne r v i1.symm
  have e2 := upd_ne r v i2.symm
  have e3 := upd_ne r v i3.symm
  have e4 := upd_ne r v i4.symm
  have e5 := upd_ne r v i5.symm
  have e6 := upd_ne r v i6.symm
  refine ⟨h.kp, by rw [e1, e2, e4, e5]; exact h.nw, by rw [e1, e2, e3, e4, e5]; exact h.tp, by rw [e1, e2, e6, e4, e5]; exact h.tq, chain_upd h.bl fun c hc' e => absurd e (hc c hc')⟩
theorem Tw.updL (h : Tw w1 nb P A n ca l F0 bv l0 l1 B p q fp fq ap sp bp aq sq bq xp xq ch r w) (i : Nat) (v : Value) (hi : i ≠ ap ∧ i ≠ sp ∧ i ≠ bp ∧ i ≠ aq ∧ i ≠ sq ∧ i ≠ bq) (hc : ∀ c ∈ ch, c.1 = i → r c.2 ≠ none) : Tw w1 nb P A n ca l F0 bv l0 l1 B p q fp fq ap sp bp aq sq bq xp xq ch (Kq.upd r i v) w := by
  obtain ⟨i1, i2, i3, i4, i5, i6⟩ := hi
  have e1 := upd_ne r v i1.symm
  have e2 := upd_ne r v i2.symm
  have e3 := upd_ne r v i3.symm
  have e4 := upd_ne r v i4.symm
  have e5 := upd_ne r v i5.symm
  have e6 := upd_ne r v i6.symm
  exact ⟨h.kp, by rw [e1, e2, e4, e5]; exact h.nw, by rw [e1, e2, e3, e4, e5]; exact h.tp, by rw [e1, e2, e6, e4, e5]; exact h.tq, chain_upd h.bl hc⟩
theorem Tw.cell (h : Tw w1 nb P A n ca l F0 bv l0 l1 B p q fp fq ap sp bp aq sq bq xp xq ch r w) (c : Nat) {v : Value} (hc : (cellsN P (.slice A n ca) (F2 F0 p q (fp (r ap) (r sp)) (fq (r aq) (r sq))) bv l0 l1)[c]? = some v) : w.cell? ⟨nb, c, none⟩ = some v := by
  rw [cell_of_row _ _ _ _ _ _ h.nw.box]
  exact hc
theorem Tw.free (h : Tw w1 nb P A n ca l F0 bv l0 l1 B p q fp fq ap sp bp aq sq bq xp xq ch r w) (c : Nat) : w.frozen? ⟨nb, c, none⟩ = false := by simp [World.frozen?, h.nw.box]
theorem Tw.old (h : Tw w1 nb P A n ca l F0 bv l0 l1 B p q fp fq ap sp bp aq sq bq xp xq ch r w) {c : Nat} (hc : c < 13) : ∃ v, w.cell? ⟨nb, c, none⟩ = some v := by
  rw [cell_of_row _ _ _ _ _ _ h.nw.box]
  exact ⟨_, Array.getElem?_eq_getElem (by simpa [cellsN] using hc)⟩
theorem fApp_fin {v0 : Value} {m : Nat} {xs : List Value} {x : Value} {oa os : Option Value} (ha : oa ≠ none) (hs : os ≠ none) : ∃ v, fApp v0 m xs x oa os = ⟨v, v, m + 1, xs ++ [x]⟩ := by
  obtain ⟨a, rfl⟩ := Option.ne_none_iff_exists'.1 ha
  obtain ⟨b, rfl⟩ := Option.ne_none_iff_exists'.1 hs
  exact ⟨a, rfl⟩
theorem fRes_fin {v0 v1 : Value} {m : Nat} {xs : List Value} {oa os : Option Value} (hs : os ≠ none) : fRes v0 v1 m xs oa os = ⟨v1, v0, m, xs⟩ := by
  obtain ⟨b, rfl⟩ := Option.ne_none_iff_exists'.1 hs
  rfl
theorem fSet_fin {v0 : Value} {m : Nat} {xs : List Value} {k : Nat} {x : Value} {oa os : Option Value} (hs : os ≠ none) : fSet v0 m xs k x oa os = ⟨v0, v0, m, xs.set k x⟩ := by
  obtain ⟨b, rfl⟩ := Option.ne_none_iff_exists'.1 hs
  rfl
/-- The five rows as they are between two statements. -/
def mkF (vS : Value) (S : List Nat) (vO : Value) (O : List Nat) (vW : Value) (W : List Int) (vH : Value) (H : List Int) (vU : Value) (U : List Int) : Nat → Fd
  | 0 => ⟨vS, vS, S.length, S.map natI⟩
  | 1 => ⟨vO, vO, O.length, O.map natI⟩
  | 2 => ⟨vW, vW, W.length, W.map i64V⟩
  | 3 => ⟨vH, vH, H.length, H.map i64V⟩
  | _ => ⟨vU, vU, U.length, U.map i64V⟩
theorem Tmp.alloc {F : Nat → Fd} {x u : Value} (h : Tmp nb F x u w) (k : Kp No w w') : Tmp nb F x u w' := by
  obtain ⟨g, h1, h2, h3, h4⟩ := h
  exact ⟨g, h1, h2, k.cell h3 id, h4⟩
theorem Tw.lay (h : Tw w1 nb P A n ca l F0 bv l0 l1 B p q fp fq ap sp bp aq sq bq xp xq ch r w) (e : TypeId) (hi : bp ≠ ap ∧ bp ≠ sp ∧ bp ≠ aq ∧ bp ≠ sq ∧ bp ≠ bq) (hc : ∀ c ∈ ch, c.1 ≠ bp) : Tw w1 nb P A n ca l F0 bv l0 l1 B p q fp fq ap sp bp aq sq bq xp xq ch (Kq.upd r bp (.slice (some ⟨w.heap.size, 0, none⟩) 1 1)) (w.alloc (.cells #[xp] e)) := by
  obtain ⟨i1, i2, i3, i4, i5⟩ := hi
  have hk : Kp No w (w.alloc (.cells #[xp] e)) := Kp.alloc _ _ _
  have e1 := upd_ne r (Value.slice (some ⟨w.heap.size, 0, none⟩) 1 1) i1.symm
  have e2 := upd_ne r (Value.slice (some ⟨w.heap.size, 0, none⟩) 1 1) i2.symm
  have e3 := upd_ne r (Value.slice (some ⟨w.heap.size, 0, none⟩) 1 1) i3.symm
  have e4 := upd_ne r (Value.slice (some ⟨w.heap.size, 0, none⟩) 1 1) i4.symm
  have e5 := upd_ne r (Value.slice (some ⟨w.heap.size, 0, none⟩) 1 1) i5.symm
  have hnw := h.nw
  refine ⟨h.kp.no hk, by rw [e1, e2, e3, e4]; exact hnw.no hk, fun u hu ha => ?_, fun u hu ha => ?_, chain_upd h.bl fun c hc' e => absurd e (hc c hc')⟩
  · rw [upd_same] at hu
    cases hu
    rw [e1, e2, e3, e4]
    refine ⟨w.heap.size, rfl, hnw.lt, by rw [cell_of_row _ _ _ _ _ _ (heap_alloc_new w _)]; rfl, fun j hj hg => ?_⟩
    have := (own_ge (hnw.own j hj) hg).2
    omega
  · rw [e5] at hu
    rw [e3] at ha
    rw [e1, e2, e3, e4]
    exact (h.tq u hu ha).alloc hk
theorem setF_setF (F : Nat → Fd) (p : Nat) (a b : Fd) : setF (setF F p a) p b = setF F p b := by
  funext j
  unfold setF
  split <;> rfl
theorem F2_p (F0 : Nat → Fd) (p q : Nat) (a b : Fd) : F2 F0 p q a b p = a := setF_same _ _ _
theorem F2_set (F0 : Nat → Fd) (p q : Nat) (a b c : Fd) : setF (F2 F0 p q a b) p c = F2 F0 p q c b := setF_setF _ _ _ _
theorem Tw.ownP {v0 : Value} {m : Nat} {xs : List Value} {x : Value} (h : Tw w1 nb P A n ca l F0 bv l0 l1 B p q (fApp v0 m xs x) fq ap sp bp aq sq bq xp xq ch r w) (hp : p < 5) (hr : r ap = none) : w.ownsRow (nb + 1) (ety p) 1 v0 m xs := by
  have := h.nw.own p hp
  rw [F2_p, hr] at this
  exact this
theorem Tw.formP {v0 v' : Value} {m : Nat} {xs : List Value} {x : Value} (h : Tw w1 nb P A n ca l F0 bv l0 l1 B p q (fApp v0 m xs x) fq ap sp bp aq sq bq xp xq ch r w) (hp : p < 5) (hr : r ap = some v') : ∃ a c, v' = .slice a (m + 1) c := by
  have := h.nw.own p hp
  rw [F2_p, hr] at this
  obtain ⟨a, c, h1, _⟩ := own_form this
  exact ⟨a, c, h1⟩
theorem Tmp.app {F : Nat → Fd} {x u v' : Value} {m : Nat} {xs : List Value} (h : Tmp nb F x u w) (hp : p < 5) (hg : w.grownBy w' (F p).v.ownBlock) (hat : v'.ownBlock = (F p).v.ownBlock ∨ v'.ownBlock = some w.heap.size) (b : Value) : Tmp nb (setF F p ⟨b, v', m, xs⟩) x u w' := by
  obtain ⟨g, h1, h2, h3, h4⟩ := h
  have hlt := World.block_lt_of_cell? _ _ h3
  have hk : Kp (fun g => (F p).v.ownBlock = some g) w w' := Kp.grown hg fun _ hk _ => hk
  refine ⟨g, h1, h2, hk.cell h3 (h4 p hp), fun j hj => ?_⟩
  by_cases e : j = p
  · subst e
    rw [setF_same]
    rcases hat with e | e
    · intro hh
      exact h4 j hj (e ▸ hh)
    · intro hh
      have hh' : v'.ownBlock = some g := hh
      rw [e] at hh'
      cases hh'
      exact absurd hlt (Nat.lt_irrefl _)
  · rw [setF_ne _ _ e]
    exact h4 j hj
theorem Tw.app {v0 : Value} {m : Nat} {xs : List Value} {x v' : Value} (h : Tw w1 nb P A n ca l F0 bv l0 l1 B p q (fApp v0 m xs x) fq ap sp bp aq sq bq xp xq ch r w) (hp : p < 5) (hr : r ap = none) (hs : r sp = none) (hi : ap ≠ sp ∧ ap ≠ bp ∧ ap ≠ aq ∧ ap ≠ sq ∧ ap ≠ bq) (hc : ∀ c ∈ ch, c.1 = ap → r c.2 ≠ none)
    (ho : w'.ownsRow (nb + 1) (ety p) 1 v' (m + 1) (xs ++ [x])) (hg : w.grownBy w' v0.ownBlock) (hat : v'.ownBlock = v0.ownBlock ∨ v'.ownBlock = some w.heap.size) :
    Tw w1 nb P A n ca l F0 bv l0 l1 B p q (fApp v0 m xs x) fq ap sp bp aq sq bq xp xq ch (Kq.upd r ap v') w' := by
  obtain ⟨i1, i2, i3, i4, i5⟩ := hi
  have e1 := upd_ne r v' i1.symm
  have e2 := upd_ne r v' i2.symm
  have e3 := upd_ne r v' i3.symm
  have e4 := upd_ne r v' i4.symm
  have e5 := upd_ne r v' i5.symm
  have hv : (F2 F0 p q (fApp v0 m xs x (r ap) (r sp)) (fq (r aq) (r sq)) p).v = v0 := by rw [F2_p, hr]; rfl
  have eF : setF (F2 F0 p q (fApp v0 m xs x (r ap) (r sp)) (fq (r aq) (r sq))) p ⟨(F2 F0 p q (fApp v0 m xs x (r ap) (r sp)) (fq (r aq) (r sq)) p).b, v', m + 1, xs ++ [x]⟩ = F2 F0 p q (fApp v0 m xs x (some v') (r sp)) (fq (r aq) (r sq)) := by
    rw [F2_set, F2_p, hs]
    rfl
  have hk : Kp (fun g => v0.ownBlock = some g) w w' := Kp.grown hg fun g hg _ => hg
  refine ⟨sn_step h.kp hk fun g hg _ => ?_, ?_, fun u hu ha => ?_, fun u hu ha => ?_, chain_upd h.bl hc⟩
  · obtain ⟨cur, hc⟩ := own_obj (h.ownP hp hr) hg
    exact ⟨by have := (own_ge (h.ownP hp hr) (hg : v0.ownBlock = some g)).1; omega, _, _, _, hc, ety_cut p⟩
  · rw [upd_same, e1, e3, e4, ← eF]
    exact h.nw.app hp ho (by rw [hv]; exact hg) (by rw [hv]; exact hat)
  · rw [upd_same] at ha
    cases ha
  · rw [e5] at hu
    rw [e3] at ha
    rw [upd_same, e1, e3, e4, ← eF]
    exact (h.tq u hu ha).app hp (by rw [hv]; exact hg) (by rw [hv]; exact hat) _
theorem Tmp.blk {F F' : Nat → Fd} {x u : Value} {g' : Nat} (h : Tmp nb F x u w) (k : Kp (One g') w w') (hg : g' = nb ∨ ∃ j, j < 5 ∧ (F j).v.ownBlock = some g') (hF : ∀ j, (F' j).v = (F j).v) : Tmp nb F' x u w' := by
  obtain ⟨g, h1, h2, h3, h4⟩ := h
  refine ⟨g, h1, h2, k.cell h3 fun e => ?_, fun j hj => by rw [hF]; exact h4 j hj⟩
  have e : g = g' := e
  subst e
  rcases hg with hg | ⟨j, hj, hg⟩
  · omega
  · exact h4 j hj hg
theorem setF_v (F : Nat → Fd) (p : Nat) (f : Fd) (h : f.v = (F p).v) (j : Nat) : (setF F p f j).v = (F j).v := by
  by_cases e : j = p
  · subst e; rw [setF_same, h]
  · rw [setF_ne _ _ e]
theorem Tw.stF {f' : Fd} {u' : Value} (h : Tw w1 nb P A n ca l F0 bv l0 l1 B p q fp fq ap sp bp aq sq bq xp xq ch r w) (hi : sp ≠ ap ∧ sp ≠ bp ∧ sp ≠ aq ∧ sp ≠ sq ∧ sp ≠ bq) (hc : ∀ c ∈ ch, c.1 = sp → r c.2 ≠ none)
    {g' : Nat} (hg : g' = nb ∨ ∃ j, j < 5 ∧ (F2 F0 p q (fp (r ap) (r sp)) (fq (r aq) (r sq)) j).v.ownBlock = some g') (hg2 : nb ≤ g') (hk : Kp (One g') w w') (ef : fp (r ap) (some u') = f') (efv : f'.v = (fp (r ap) (r sp)).v) (hN : NW nb P A n ca l (setF (F2 F0 p q (fp (r ap) (r sp)) (fq (r aq) (r sq))) p f') bv l0 l1 B w') :
    Tw w1 nb P A n ca l F0 bv l0 l1 B p q fp fq ap sp bp aq sq bq xp xq ch (Kq.upd r sp u') w' := by
  obtain ⟨i1, i2, i3, i4, i5⟩ := hi
  have e1 := upd_ne r u' i1.symm
  have e2 := upd_ne r u' i2.symm
  have e3 := upd_ne r u' i3.symm
  have e4 := upd_ne r u' i4.symm
  have e5 := upd_ne r u' i5.symm
  have hv : ∀ j, (F2 F0 p q f' (fq (r aq) (r sq)) j).v = (F2 F0 p q (fp (r ap) (r sp)) (fq (r aq) (r sq)) j).v := fun j => by
    rw [← F2_set F0 p q (fp (r ap) (r sp)) _ f']
    exact setF_v _ _ _ (by rw [F2_p, efv]) j
  refine ⟨sn_step h.kp hk fun k e _ => ?_, ?_, fun u hu ha => ?_, fun u hu ha => ?_, chain_upd h.bl hc⟩
  · have e : k = g' := e
    subst e
    refine ⟨hg2, ?_⟩
    rcases hg with hg | ⟨j, hj, hg⟩
    · subst hg
      exact ⟨_, _, _, h.nw.box, by decide⟩
    · obtain ⟨cur, hc⟩ := own_obj (h.nw.own j hj) hg
      exact ⟨_, _, _, hc, ety_cut j⟩
  · rw [upd_same, e1, e3, e4, ef, ← F2_set F0 p q (fp (r ap) (r sp)) _ f']
    exact hN
  · rw [e2] at hu
    rw [e1] at ha
    rw [upd_same, e1, e3, e4, ef]
    exact (h.tp u hu ha).blk hk hg hv
  · rw [e5] at hu
    rw [e3] at ha
    rw [upd_same, e1, e3, e4, ef]
    exact (h.tq u hu ha).blk hk hg hv
theorem Tw.putApp {v0 : Value} {m : Nat} {xs : List Value} {x v' : Value} (h : Tw w1 nb P A n ca l F0 bv l0 l1 B p q (fApp v0 m xs x) fq ap sp bp aq sq bq xp xq ch r w) (hp : p < 5) (ha : r ap = some v') (hi : sp ≠ ap ∧ sp ≠ bp ∧ sp ≠ aq ∧ sp ≠ sq ∧ sp ≠ bq) (hc : ∀ c ∈ ch, c.1 = sp → r c.2 ≠ none) (u' : Value) :
    Tw w1 nb P A n ca l F0 bv l0 l1 B p q (fApp v0 m xs x) fq ap sp bp aq sq bq xp xq ch (Kq.upd r sp u') (w.setCell ⟨nb, p + 4, none⟩ v') := by
  refine h.stF hi hc (.inl rfl) (Nat.le_refl _) (kp_setOne _ _ _ _) rfl rfl ?_
  have := h.nw.put hp v'
  rw [F2_p, ha] at this
  rw [ha]
  exact this
theorem Tw.putRes {v0 v1 : Value} {m : Nat} {xs : List Value} (h : Tw w1 nb P A n ca l F0 bv l0 l1 B p q (fRes v0 v1 m xs) fq ap sp bp aq sq bq xp xq ch r w) (hp : p < 5) (hi : sp ≠ ap ∧ sp ≠ bp ∧ sp ≠ aq ∧ sp ≠ sq ∧ sp ≠ bq) (hc : ∀ c ∈ ch, c.1 = sp → r c.2 ≠ none) (u' : Value) :
    Tw w1 nb P A n ca l F0 bv l0 l1 B p q (fRes v0 v1 m xs) fq ap sp bp aq sq bq xp xq ch (Kq.upd r sp u') (w.setCell ⟨nb, p + 4, none⟩ v1) := by
  refine h.stF hi hc (.inl rfl) (Nat.le_refl _) (kp_setOne _ _ _ _) rfl rfl ?_
  have := h.nw.put hp v1
  rw [F2_p] at this
  exact this
theorem Tw.putSet {g m cap : Nat} {xs : List Value} {k : Nat} {x : Value} (h : Tw w1 nb P A n ca l F0 bv l0 l1 B p q (fSet (.slice (some ⟨g, 0, none⟩) m cap) m xs k x) fq ap sp bp aq sq bq xp xq ch r w) (hp : p < 5) (hr : r sp = none) (hi : sp ≠ ap ∧ sp ≠ bp ∧ sp ≠ aq ∧ sp ≠ sq ∧ sp ≠ bq) (hc : ∀ c ∈ ch, c.1 = sp → r c.2 ≠ none) (u' : Value) :
    Tw w1 nb P A n ca l F0 bv l0 l1 B p q (fSet (.slice (some ⟨g, 0, none⟩) m cap) m xs k x) fq ap sp bp aq sq bq xp xq ch (Kq.upd r sp u') (w.setCell ⟨g, k, none⟩ x) := by
  have hv : (F2 F0 p q (fSet (.slice (some ⟨g, 0, none⟩) m cap) m xs k x (r ap) (r sp)) (fq (r aq) (r sq)) p).v = .slice (some ⟨g, 0, none⟩) m cap := by rw [F2_p]; rfl
  have hg := (own_ge (h.nw.own p hp) (g := g) (by rw [hv]; rfl)).1
  refine h.stF hi hc (.inr ⟨p, hp, by rw [hv]; rfl⟩) (by omega) (kp_setOne _ _ _ _) rfl rfl ?_
  have := h.nw.set hp hv (by rw [F2_p]; rfl) k x
  rw [F2_p, hr] at this
  rw [hr]
  exact this
theorem Tw.setOwn {g m cap : Nat} {xs : List Value} {k : Nat} {x : Value} (h : Tw w1 nb P A n ca l F0 bv l0 l1 B p q (fSet (.slice (some ⟨g, 0, none⟩) m cap) m xs k x) fq ap sp bp aq sq bq xp xq ch r w) (hp : p < 5) (hk : k < xs.length) : (∃ old, w.cell? ⟨g, k, none⟩ = some old) ∧ w.frozen? ⟨g, k, none⟩ = false := by
  have ho := h.nw.own p hp
  rw [F2_p] at ho
  refine ⟨⟨_, own_cell ho (j := k) (List.getElem?_eq_getElem ?_)⟩, own_free ho k⟩
  unfold fSet
  dsimp only
  split
  · rw [List.length_set]; exact hk
  · exact hk
end
end Go.Proofs.Ytamjhpdgclbfgaa
