/- Chapter 24: the program's search (Plan's closure, with its memory): walked. Printed by gen_pnb.py. -/
import Derived.Test.YtakgcnjpmpcekaaGreatXPnA
import Derived.Test.YtakgcnjpmpcekaaGreatXLibHmM
namespace Go.Proofs.YtakgcnjpmpcekaaGreat
open Go.RowKit Go.Kq

def chC (q : Int × Bool) : Array Value := #[.int .i64 q.1, .bool q.2]
/-- What the search goes by. -/
structure Cx where
  A : Option Addr
  n : Nat
  ca : Nat
  R : Option Addr
  m : Nat
  cr : Nat
  least : Int
  l : List Fc
  r : List Int
  gF : Nat
  gR : Nat
  gK : Nat
  gB : Nat
  w0 : World
def Cx.J (X : Cx) : Nat := (X.n + 1) / 2
def Cx.front (X : Cx) : Array Value := frC X.A X.n X.ca X.R X.m X.cr X.least
def pt (b : Nat) : Value := .pointer (some ⟨b, 0, none⟩)
def Cx.func (X : Cx) : Value := .func (.func 28) #[] #[pt X.gF, pt X.gR, pt X.gK, pt X.gB]
structure Cx.Ok (X : Cx) : Prop where
  hA : RdF X.w0 X.A X.n X.l
  hR : RdI .i64 X.w0 X.R X.m X.r
  hn : X.n ≤ 12
  hm : X.m ≤ 60
  hl : ∀ f ∈ X.l, 1 ≤ f.w ∧ f.w ≤ 10000000
  hr : ∀ x ∈ X.r, 1 ≤ x ∧ x ≤ 1000000
  hle : 0 ≤ X.least ∧ X.least ≤ 10000000
  hg : X.w0.heap.size ≤ X.gK
/-- What is remembered of a group and a pipe. -/
def Cx.Ent (X : Cx) (w : World) (av : Nat → Prop) (k at_ : Nat) (v : Value) : Prop := v = .pointer none ∨ ∃ p, v = pt p ∧ ¬ av p ∧ k < X.J ∧ w.heap[p]? = some (.cells (chC (bstN X.l X.r X.least (X.J - k) at_)) 69 (0, 0))
structure Cx.Me (X : Cx) (w : World) (av : Nat → Prop) : Prop where
  kp : Kp No X.w0 w
  f : w.heap[X.gF]? = some (.cells X.front 62 (0, 0))
  r : w.heap[X.gR]? = some (.cells #[.slice X.R X.m X.cr] 22 (0, 0))
  b : w.heap[X.gB]? = some (.cells #[X.func] 66 (0, 0))
  k : ∃ cs, w.heap[X.gK]? = some (.cells cs 65 (0, 0)) ∧ ∀ k at_, k < 7 → at_ < 61 → ∃ v, cs[k * 61 + at_]? = some v ∧ X.Ent w av k at_ v
section
variable {X : Cx} {w w' : World} {av : Nat → Prop}
theorem Cx.Ent.kp {S : Nat → Prop} {k at_ : Nat} {v : Value} (h : X.Ent w av k at_ v) (hk : Kp S w w') (hS : ∀ p cs, S p → w.heap[p]? ≠ some (.cells cs 69 (0, 0)) ∨ av p) : X.Ent w' av k at_ v := by
  rcases h with h | ⟨p, rfl, h1, h2, h3⟩
  · exact .inl h
  · refine .inr ⟨p, rfl, h1, h2, hk.heap h3 fun hp => ?_⟩
    rcases hS p _ hp with h | h
    · exact h h3
    · exact h1 h
theorem Cx.Me.no (h : X.Me w av) (k : Kp No w w') : X.Me w' av := by
  obtain ⟨h1, h2, h3, h4, cs, h5, h6⟩ := h
  exact ⟨h1.tr k, k.heap h2 id, k.heap h3 id, k.heap h4 id, cs, k.heap h5 id, fun a b ha hb => by
    obtain ⟨v, hv, he⟩ := h6 a b ha hb
    exact ⟨v, hv, he.kp k fun p cs hp => hp.elim⟩⟩
/-- A box that is new is none of what is remembered. -/
theorem Cx.Me.more (h : X.Me w av) {g : Nat} (hg : w.heap.size ≤ g) : X.Me w fun b => av b ∨ b = g := by
  obtain ⟨h1, h2, h3, h4, cs, h5, h6⟩ := h
  refine ⟨h1, h2, h3, h4, cs, h5, fun a b ha hb => ?_⟩
  obtain ⟨v, hv, he⟩ := h6 a b ha hb
  refine ⟨v, hv, ?_⟩
  rcases he with he | ⟨p, rfl, e1, e2, e3⟩
  · exact .inl he
  · refine .inr ⟨p, rfl, ?_, e2, e3⟩
    rintro (h | h)
    · exact e1 h
    · have := (Array.getElem?_eq_some_iff.1 e3).1
      omega
theorem Cx.Me.less {g : Nat} (h : X.Me w fun b => av b ∨ b = g) : X.Me w av := by
  obtain ⟨h1, h2, h3, h4, cs, h5, h6⟩ := h
  refine ⟨h1, h2, h3, h4, cs, h5, fun a b ha hb => ?_⟩
  obtain ⟨v, hv, he⟩ := h6 a b ha hb
  refine ⟨v, hv, ?_⟩
  rcases he with he | ⟨p, rfl, e1, e2, e3⟩
  · exact .inl he
  · exact .inr ⟨p, rfl, fun h => e1 (.inl h), e2, e3⟩
/-- A box that is none of what is remembered may be turned. -/
theorem Cx.Me.turn {g : Nat} (h : X.Me w fun b => av b ∨ b = g) {cs0 : Array Value} (hg : w.heap[g]? = some (.cells cs0 69 (0, 0))) (h0 : X.w0.heap.size ≤ g) (k : Kp (Kq.One g) w w') : X.Me w' fun b => av b ∨ b = g := by
  obtain ⟨h1, h2, h3, h4, cs, h5, h6⟩ := h
  have ne : ∀ {b : Nat} {c : Array Value} {t : TypeId}, w.heap[b]? = some (.cells c t (0, 0)) → t ≠ 69 → ¬ Kq.One g b := fun {b c t} hb ht e => by
    have e : b = g := e
    subst e
    rw [hb] at hg
    injection hg with hg
    injection hg with _ hg
    exact ht hg
  refine ⟨h1.trans k fun b hb e => by have e : b = g := e; omega, k.heap h2 (ne h2 (by decide)), k.heap h3 (ne h3 (by decide)), k.heap h4 (ne h4 (by decide)), cs, k.heap h5 (ne h5 (by decide)), fun a b ha hb => ?_⟩
  obtain ⟨v, hv, he⟩ := h6 a b ha hb
  exact ⟨v, hv, he.kp k fun p cs hp => .inr (.inr hp)⟩
/-- One more is remembered. -/
theorem Cx.Me.put {g k at_ : Nat} (hO : X.w0.heap.size ≤ X.gK) (h : X.Me w fun b => av b ∨ b = g) (hg : w.heap[g]? = some (.cells (chC (bstN X.l X.r X.least (X.J - k) at_)) 69 (0, 0))) (hav : ¬ av g) (hk : k < X.J) (hat : at_ < 61) :
    X.Me (w.setCell ⟨X.gK, k * 61 + at_, none⟩ (pt g)) av ∧ Kp (Kq.One X.gK) w (w.setCell ⟨X.gK, k * 61 + at_, none⟩ (pt g)) ∧ (w.setCell ⟨X.gK, k * 61 + at_, none⟩ (pt g)).heap[g]? = some (.cells (chC (bstN X.l X.r X.least (X.J - k) at_)) 69 (0, 0)) := by
  obtain ⟨h1, h2, h3, h4, cs, h5, h6⟩ := h
  have K := kp_setOne w X.gK (k * 61 + at_) (pt g)
  have ne : ∀ {b : Nat} {c : Array Value} {t : TypeId}, w.heap[b]? = some (.cells c t (0, 0)) → t ≠ 65 → ¬ Kq.One X.gK b := fun {b c t} hb ht e => by
    have e : b = X.gK := e
    subst e
    rw [hb] at h5
    injection h5 with h5
    injection h5 with _ h5
    exact ht h5
  have hg2 := K.heap hg (ne hg (by decide))
  have h5' : (w.setCell ⟨X.gK, k * 61 + at_, none⟩ (pt g)).heap[X.gK]? = some (.cells (cs.setIfInBounds (k * 61 + at_) (pt g)) 65 (0, 0)) := by
    simp [World.setCell, Array.getElem?_modify, h5]
  refine ⟨⟨h1.trans K fun b hb e => by have e : b = X.gK := e; omega, K.heap h2 (ne h2 (by decide)), K.heap h3 (ne h3 (by decide)), K.heap h4 (ne h4 (by decide)), _, h5', fun a b ha hb => ?_⟩, K, hg2⟩
  obtain ⟨v, hv, he⟩ := h6 a b ha hb
  by_cases e : k * 61 + at_ = a * 61 + b
  · have e1 : k = a := by omega
    have e2 : at_ = b := by omega
    subst e1 e2
    refine ⟨pt g, ?_, .inr ⟨g, rfl, hav, hk, hg2⟩⟩
    rw [Array.getElem?_setIfInBounds_self]
    have := (Array.getElem?_eq_some_iff.1 hv).1
    simp [this]
  · refine ⟨v, by rw [Array.getElem?_setIfInBounds_ne e]; exact hv, ?_⟩
    rcases he with he | ⟨p, rfl, e1, e2, e3⟩
    · exact .inl he
    · exact .inr ⟨p, rfl, fun h => e1 (.inl h), e2, K.heap e3 (ne e3 (by decide))⟩
end
def cN (l : List Fc) (r : List Int) (least : Int) (SZ j k at_ i : Nat) : Int × Bool := (List.range i).foldl (fun c m => chN (ggpN l r least k at_ (m + 1)) (bstN l r least j (at_ + SZ * (m + 1))) c) (0, false)
theorem cN_succ (l : List Fc) (r : List Int) (least : Int) (SZ j k at_ i : Nat) : cN l r least SZ j k at_ (i + 1) = chN (ggpN l r least k at_ (i + 1)) (bstN l r least j (at_ + SZ * (i + 1))) (cN l r least SZ j k at_ i) := by
  unfold cN
  rw [List.range_succ, List.foldl_append]
  rfl
theorem Cx.Me.fc {X : Cx} {w : World} {av : Nat → Prop} (h : X.Me w av) : w.cell? ⟨X.gF, 0, none⟩ = some (.slice X.A X.n X.ca) ∧ w.cell? ⟨X.gF, 1, none⟩ = some (.slice X.R X.m X.cr) ∧ w.cell? ⟨X.gF, 2, none⟩ = some (.int .i64 X.least) := by
  have hf := h.f
  unfold Cx.front frC at hf
  exact ⟨by rw [cell_of_row _ _ _ _ _ _ hf]; rfl, by rw [cell_of_row _ _ _ _ _ _ hf]; rfl, by rw [cell_of_row _ _ _ _ _ _ hf]; rfl⟩
theorem Cx.Me.rc {X : Cx} {w : World} {av : Nat → Prop} (h : X.Me w av) : w.cell? ⟨X.gR, 0, none⟩ = some (.slice X.R X.m X.cr) := by
  rw [cell_of_row _ _ _ _ _ _ h.r]
  rfl
theorem Cx.Me.bc {X : Cx} {w : World} {av : Nat → Prop} (h : X.Me w av) : w.cell? ⟨X.gB, 0, none⟩ = some (.func (.func 28) #[] #[.pointer (some ⟨X.gF, 0, none⟩), .pointer (some ⟨X.gR, 0, none⟩), .pointer (some ⟨X.gK, 0, none⟩), .pointer (some ⟨X.gB, 0, none⟩)]) := by
  rw [cell_of_row _ _ _ _ _ _ h.b]
  rfl
/-- A box with a choice is not the table. -/
theorem Cx.Me.ne {X : Cx} {w : World} {av : Nat → Prop} (h : X.Me w av) {p : Nat} {cs : Array Value} (hp : w.heap[p]? = some (.cells cs 69 (0, 0))) : ¬ Kq.One X.gK p := fun e => by
  have e : p = X.gK := e
  subst e
  obtain ⟨_, _, _, _, cs', h5, _⟩ := h
  rw [hp] at h5
  injection h5 with h5
  injection h5 with _ h5
  exact absurd h5 (by decide)
def ChB (w : World) (p : Nat) (q : Int × Bool) : Prop := w.heap[p]? = some (.cells (chC q) 69 (0, 0))
theorem Cx.Me.kc {X : Cx} {w : World} {av : Nat → Prop} (h : X.Me w av) {k at_ : Nat} (hk : k < 7) (hat : at_ < 61) : (∃ v, w.cell? ⟨X.gK, k * 61 + at_, none⟩ = some v) ∧ w.frozen? ⟨X.gK, k * 61 + at_, none⟩ = false := by
  obtain ⟨_, _, _, _, cs, h5, h6⟩ := h
  obtain ⟨v, hv, _⟩ := h6 k at_ hk hat
  exact ⟨⟨v, by rw [cell_of_row _ _ _ _ _ _ h5, hv]⟩, by simp [World.frozen?, h5]⟩
def RecF (X : Cx) (av : Nat → Prop) (j at_ : Nat) (w : World) (u : Value) : Prop := ∃ p, u = pt p ∧ ChB w p (bstN X.l X.r X.least j at_) ∧ ¬ av p
theorem RecF.kp {X : Cx} {av av' : Nat → Prop} {j at_ : Nat} {w w' : World} {u : Value} (h : RecF X av j at_ w u) (hm : X.Me w av') (k : Kp (Kq.One X.gK) w w') : RecF X av j at_ w' u := by
  obtain ⟨p, h1, h2, h3⟩ := h
  exact ⟨p, h1, k.heap h2 (hm.ne h2), h3⟩
theorem ChB.cells {w : World} {p : Nat} {q : Int × Bool} (h : ChB w p q) : w.cell? ⟨p, 0, none⟩ = some (.int .i64 q.1) ∧ w.cell? ⟨p, 1, none⟩ = some (.bool q.2) ∧ w.frozen? ⟨p, 0, none⟩ = false ∧ w.frozen? ⟨p, 1, none⟩ = false ∧ p < w.heap.size := by
  unfold ChB chC at h
  exact ⟨by rw [cell_of_row _ _ _ _ _ _ h]; rfl, by rw [cell_of_row _ _ _ _ _ _ h]; rfl, by simp [World.frozen?, h], by simp [World.frozen?, h], (Array.getElem?_eq_some_iff.1 h).1⟩
theorem ChB.set {w : World} {p : Nat} {q : Int × Bool} (h : ChB w p q) (x : Int) (y : Bool) : ChB ((w.setCell ⟨p, 0, none⟩ (.int .i64 x)).setCell ⟨p, 1, none⟩ (.bool y)) p (x, y) ∧ Kp (Kq.One p) w ((w.setCell ⟨p, 0, none⟩ (.int .i64 x)).setCell ⟨p, 1, none⟩ (.bool y)) := by
  refine ⟨?_, (kp_setOne w p 0 _).tr (kp_setOne _ p 1 _)⟩
  unfold ChB chC at *
  simp [World.setCell, Array.getElem?_modify, h]
theorem div_at {m a s n : Nat} (hs : 1 ≤ s) (hn : 1 ≤ n) (h1 : a + s * (n - 1) ≤ m) (h2 : ¬ a + s * n ≤ m) : (m - a) / s = n - 1 := by
  obtain ⟨q, rfl⟩ : ∃ q, n = q + 1 := ⟨n - 1, by omega⟩
  rw [Nat.add_sub_cancel] at h1 ⊢
  rw [Nat.mul_succ] at h2
  refine Nat.div_eq_of_lt_le ?_ ?_
  · rw [Nat.mul_comm]; omega
  · rw [Nat.mul_comm, Nat.mul_succ]; omega
/-- What the search returns. -/
def BstR (X : Cx) (av : Nat → Prop) (j at_ : Nat) (w : World) (e : Ending) (w' : World) : Prop := ∃ p, e = .returned (pt p) ∧ w'.heap[p]? = some (.cells (chC (bstN X.l X.r X.least j at_)) 69 (0, 0)) ∧ X.Me w' av ∧ ¬ av p ∧ Kp (Kq.One X.gK) w w'
def BstC (X : Cx) (j : Nat) : Prop := ∀ (k at_ : Nat) (av : Nat → Prop) (w : World), j + k = X.J → at_ ≤ X.m → X.Me w av → (∀ b, av b → b < w.heap.size) → Calls Tryz.prog 28 #[.int .i64 (k : Nat), .int .i64 (at_ : Nat), pt X.gF, pt X.gR, pt X.gK, pt X.gB] w (BstR X av j at_ w)
set_option maxHeartbeats 4000000 in
theorem best_zero (X : Cx) (H : X.Ok) : BstC X 0 := by
  intro k at_ av w hk hat hm hav
  have HAV := Lib.hid hav
  clear hav
  obtain rfl : k = X.J := by omega
  have HM := Lib.hid hm
  have hf := hm.f
  have hr := hm.r
  have GS := Lib.hid (fun w0 => groups_any X.A X.R X.n X.ca X.m X.cr X.least w0 H.hn)
  have hrl := H.hR.1
  have HB := Lib.hid (show bstN X.l X.r X.least 0 at_ = (0, decide ((at_ : Int) = (X.m : Int))) by
    rw [bstN, hrl]
    congr 1
    rw [decide_eq_decide]
    omega)
  unfold Cx.front frC at hf
  unfold frV frC at GS
  have f0 : w.cell? ⟨X.gF, 0, none⟩ = some (.slice X.A X.n X.ca) := by rw [cell_of_row _ _ _ _ _ _ hf]; rfl
  have f1 : w.cell? ⟨X.gF, 1, none⟩ = some (.slice X.R X.m X.cr) := by rw [cell_of_row _ _ _ _ _ _ hf]; rfl
  have f2 : w.cell? ⟨X.gF, 2, none⟩ = some (.int .i64 X.least) := by rw [cell_of_row _ _ _ _ _ _ hf]; rfl
  have r0 : w.cell? ⟨X.gR, 0, none⟩ = some (.slice X.R X.m X.cr) := by rw [cell_of_row _ _ _ _ _ _ hr]; rfl
  have HRB := Lib.hid hr
  have hmm := H.hm
  unfold pt
  change Calls _ _ #[.int .i64 ((X.n + 1) / 2 : Nat), _, _, _, _, _] _ _
  obtain ⟨J, hJ⟩ : ∃ J, J = (X.n + 1) / 2 := ⟨_, rfl⟩
  rw [← hJ] at GS ⊢
  clear hf hr hrl hm hJ hk
  go_enter Tryz.func28, Tryz.ntmps28
  go_wp2_with fail
  with_reducible refine (GS.out _).mono ?_
  rintro e w1 ⟨rfl, k1⟩
  have r1 : w1.cell? ⟨X.gR, 0, none⟩ = some (.slice X.R X.m X.cr) := k1.cell r0 id
  have HK := Lib.hid k1
  clear k1 f0 f1 f2 r0
  go_wp2_with fail
  go_ret
  refine ⟨w1.heap.size, rfl, ?_, (HM.out.no HK.out).no (Kp.alloc _ _ _), fun h => ?_, (HK.out.tr (Kp.alloc _ _ _)).mono fun _ _ h => h.elim⟩
  · rw [HB.out]
    exact heap_alloc_new _ _
  · have := HAV.out _ h
    have := HK.out.size
    omega
set_option maxHeartbeats 8000000 in
set_option maxRecDepth 100000 in
theorem best_succ (X : Cx) (H : X.Ok) (j : Nat) (IH : BstC X j) : BstC X (j + 1) := by
  intro k at_ av w hk hat hm hav
  have hav := Lib.hid hav
  have HAV := hav
  clear hav
  have HM := Lib.hid hm
  have hf := hm.f
  have hr := hm.r
  have hn12 := H.hn
  have hkj0 : j + 1 + k = (X.n + 1) / 2 := hk
  have hkJ : k < (X.n + 1) / 2 := by omega
  clear hkj0
  have GS := Lib.hid (fun w0 => groups_any X.A X.R X.n X.ca X.m X.cr X.least w0 H.hn)
  have hmm := H.hm
  have hJ6 : (X.n + 1) / 2 ≤ 6 := by omega
  unfold Cx.front frC at hf
  unfold frV frC at GS
  have f0 : w.cell? ⟨X.gF, 0, none⟩ = some (.slice X.A X.n X.ca) := by rw [cell_of_row _ _ _ _ _ _ hf]; rfl
  have f1 : w.cell? ⟨X.gF, 1, none⟩ = some (.slice X.R X.m X.cr) := by rw [cell_of_row _ _ _ _ _ _ hf]; rfl
  have f2 : w.cell? ⟨X.gF, 2, none⟩ = some (.int .i64 X.least) := by rw [cell_of_row _ _ _ _ _ _ hf]; rfl
  have HJ := Lib.hid hk
  have hkne : (k == (X.n + 1) / 2) = false := by simp; omega
  have hkne2 : ((k : Int) == (((X.n + 1) / 2 : Nat) : Int)) = false := by simp; omega
  obtain ⟨J, hJ⟩ : ∃ J, J = (X.n + 1) / 2 := ⟨_, rfl⟩
  rw [← hJ] at GS hkne hkne2 hkJ hJ6
  have hkj7 : k < 7 := by omega
  have hat61 : at_ < 61 := by omega
  have HJJ := Lib.hid hJ
  clear hf hr hm hk hJ
  unfold pt
  go_enter Tryz.func28, Tryz.ntmps28
  go_wp2_with fail
  with_reducible refine (GS.out _).mono ?_
  rintro e w1 ⟨rfl, k1⟩
  have HM1 := Lib.hid (HM.out.no k1)
  have HK1 := Lib.hid k1
  clear k1 f0 f1 f2 GS HM
  obtain ⟨cs, h5, h6⟩ := HM1.out.k
  obtain ⟨v, hv, he⟩ := h6 k at_ hkj7 hat61
  have hc : w1.cell? ⟨X.gK, k * 61 + at_, none⟩ = some v := by rw [cell_of_row _ _ _ _ _ _ h5, hv]
  have hgK := (Array.getElem?_eq_some_iff.1 h5).1
  clear h5 h6 hv
  rcases he with rfl | ⟨p, rfl, e1, e2, e3⟩
  rotate_left
  · have E3 := Lib.hid e3
    have E1 := Lib.hid e1
    unfold pt at hc
    clear e1 e2 e3 IH
    go_wp2_with fail
    go_ret
    exact ⟨p, rfl, by rw [show j + 1 = X.J - k by have := HJ.out; omega]; exact E3.out, HM1.out, E1.out, HK1.out.mono fun _ _ h => h.elim⟩
  obtain ⟨gc, hgc⟩ : ∃ gc, gc = w1.heap.size := ⟨_, rfl⟩
  have hme := (HM1.out.more (g := gc) (by omega)).no (Kp.alloc No w1 (.cells #[.int .i64 0, .bool false] 69))
  have hbx : (w1.alloc (.cells #[.int .i64 0, .bool false] 69)).heap[gc]? = some (.cells (chC (0, false)) 69 (0, 0)) := by rw [hgc]; exact heap_alloc_new _ _
  have hka := Kp.alloc No w1 (.cells #[.int .i64 0, .bool false] 69)
  go_wp2_with fail
  rw [← hgc]
  generalize w1.alloc (.cells #[.int .i64 0, .bool false] 69) = w2 at *
  have HKA := Lib.hid hka
  have HGC := Lib.hid hgc
  obtain ⟨SZ, hSZ⟩ : ∃ SZ, SZ = sizN X.n k := ⟨_, rfl⟩
  have hs1 : 1 ≤ SZ := by rw [hSZ]; exact siz_pos _ _
  have hs2 : SZ ≤ 2 := by rw [hSZ]; unfold sizN; split <;> omega
  have hkJ' : k < (X.n + 1) / 2 := by rw [← HJJ.out]; exact hkJ
  have SIZ := Lib.hid (fun w0 => fsize_any X.A X.R X.n X.ca X.m X.cr X.least k w0 H.hn hkJ')
  have GAP := Lib.hid (fun (q : Nat) (w0 : World) (k0 : Kp No X.w0 w0) (hq : at_ + SZ * q ≤ X.m) => gap_any X.A X.R X.n X.ca X.m X.cr X.least X.l X.r k at_ q w0 (H.hA.no k0) (H.hR.no k0) H.hn H.hm hkJ' (by rw [← hSZ]; exact hq) H.hl H.hr H.hle)
  rw [← hSZ] at SIZ
  unfold frV frC at SIZ GAP
  have BST := Lib.hid (show bstN X.l X.r X.least (j + 1) at_ = cN X.l X.r X.least SZ j k at_ ((X.m - at_) / SZ) by
    have hkj : j + 1 + k = (X.n + 1) / 2 := HJ.out
    have e1 : (X.l.length + 1) / 2 - (j + 1) = k := by rw [H.hA.1]; omega
    rw [bstN]
    (try dsimp only)
    rw [e1, H.hR.1, H.hA.1, ← hSZ]
    rfl)
  have IHH := Lib.hid IH
  have hM0 := Lib.hid (show cN X.l X.r X.least SZ j k at_ 0 = (0, false) from rfl)
  have HCS := Lib.hid (cN_succ X.l X.r X.least SZ j k at_)
  clear IH hka hgc hSZ hkJ'
  generalize cN X.l X.r X.least SZ j k at_ = C at *
  go_loopw [10] (fun i wr => ∃ N : Nat, 1 ≤ N ∧ i = .int .i64 (N : Nat) ∧ at_ + SZ * (N - 1) ≤ X.m ∧ X.Me wr (fun b => av b ∨ b = gc) ∧ ChB wr gc (C (N - 1)) ∧ Kp (fun b => b = X.gK ∨ b = gc) w2 wr) (fun i _ => X.m + 2 - (intOf i).toNat)
  case atStart => exact ⟨1, by omega, rfl, by omega, hme, by rw [Nat.sub_self, hM0.out]; exact hbx, Kp.refl _ _⟩
  case round =>
    obtain ⟨N, hN, rfl, hNm, hme, hbx, hkp⟩ := hrel
    have HME := Lib.hid hme
    have HBX := Lib.hid hbx
    have HKP := Lib.hid hkp
    obtain ⟨sn, hsn⟩ : ∃ sn, sn = SZ * N := ⟨_, rfl⟩
    obtain ⟨aq, has⟩ : ∃ aq, aq = at_ + sn := ⟨_, rfl⟩
    have hN60 : N ≤ 61 := by
      have := Nat.mul_le_mul_right (N - 1) hs1
      omega
    have hsn2 : sn ≤ 122 := by rw [hsn]; exact Nat.mul_le_mul hs2 hN60
    have q1 : IntKind.i64.wrap ((SZ : Int) * (N : Int)) = (sn : Int) := by
      rw [show (SZ : Int) * (N : Int) = (sn : Int) by rw [hsn]; simp, IntKind.wrap_i64]; omega
    have q2 : IntKind.i64.wrap ((at_ : Int) + (sn : Int)) = (aq : Int) := by
      rw [show (at_ : Int) + (sn : Int) = (aq : Int) by rw [has]; simp, IntKind.wrap_i64]; omega
    have Q1 := Lib.hid q1
    have Q2 := Lib.hid q2
    have HAS := Lib.hid (show aq = at_ + SZ * N by rw [has, hsn])
    have h60 : X.m ≤ 60 := hmm
    clear hme hbx hkp hsn has
    by_cases hle : aq ≤ X.m
    · have d1 : decide (aq ≤ X.m) = true := by simp [hle]
      have d2 : decide ((aq : Int) ≤ (X.m : Int)) = true := by simp [hle]
      go_wp2_with fail
      refine wp_region_each (fun ix uR => match ix with | 0 => uR = .int .i64 (at_ : Nat) | 1 => uR = .agg #[.slice X.A X.n X.ca, .slice X.R X.m X.cr, .int .i64 X.least] | 2 => uR = .int .i64 (k : Nat) | 3 => uR = .int .i64 (SZ : Nat) | 4 => uR = .int .i64 (N : Nat) | 5 => uR = .int .i64 (sn : Nat) | 6 => uR = .int .i64 (aq : Nat) | 7 => uR = .slice X.R X.m X.cr | 8 => uR = .int .i64 (X.m : Nat) | 9 => uR = .bool true | _ => True) (HvM (fun wz => X.Me wz (fun b => av b ∨ b = gc) ∧ Kp (Kq.One X.gK) wr wz) (fun ix wz u => True)) (by kernel_rfl) (by kernel_rfl) (by kernel_rfl) ?_ ?_ ?_
      · exact HvM.start _ (⟨HME.out.no (Kp.drew _ _), Kp.drew _ _⟩)
      · refine ⟨?_, ?_, ?_, ?_, ?_, ?_, ?_, ?_, ?_, ?_, trivial⟩
        · intro r a w' hf hg hW hr hd K hK
          refine wpOp_of rfl rfl ?_
          have e0 : a.tmps.getD 1 undef = .int .i64 (at_ : Nat) := hf.evalFree (by kernel_rfl)
          go_simp
          exact hK _ _ rfl (hW.upd 0 _ trivial)
        · intro r a w' hf hg hW hr hd K hK
          refine wpOp_of rfl rfl ?_
          have e0 : a.tmps.getD 2 undef = .pointer (some ⟨X.gF, 0, none⟩) := hf.evalFree (by kernel_rfl)
          have z0 := hW.m.1.fc.1
          have z1 := hW.m.1.fc.2.1
          have z2 := hW.m.1.fc.2.2
          go_simp
          exact hK _ _ rfl (hW.upd 1 _ trivial)
        · intro r a w' hf hg hW hr hd K hK
          refine wpOp_of rfl rfl ?_
          have e0 : a.tmps.getD 0 undef = .int .i64 (k : Nat) := hf.evalFree (by kernel_rfl)
          go_simp
          exact hK _ _ rfl (hW.upd 2 _ trivial)
        · intro r a w' hf hg hW hr hd K hK
          refine wpOp_of rfl rfl ?_
          refine hf.depE hg hd 1 38 (by kernel_rfl) fun u0 e0 g0 h0 => ?_
          replace g0 : u0 = .agg #[.slice X.A X.n X.ca, .slice X.R X.m X.cr, .int .i64 X.least] := g0
          subst g0
          refine hf.depE hg hd 2 39 (by kernel_rfl) fun u1 e1 g1 h1 => ?_
          replace g1 : u1 = .int .i64 (k : Nat) := g1
          subst g1
          go_simp
          with_reducible refine (SIZ.out _).mono ?_
          rintro e w'' ⟨rfl, k⟩
          exact hK _ _ rfl ((hW.call ⟨hW.m.1.no k, hW.m.2.no k⟩ fun _ _ h => h).upd 3 _ trivial)
        · intro r a w' hf hg hW hr hd K hK
          refine wpOp_of rfl rfl ?_
          have e0 : a.tmps.getD 10 undef = .int .i64 (N : Nat) := hf.evalFree (by kernel_rfl)
          go_simp
          exact hK _ _ rfl (hW.upd 4 _ trivial)
        · intro r a w' hf hg hW hr hd K hK
          refine wpOp_of rfl rfl ?_
          refine hf.depE hg hd 3 40 (by kernel_rfl) fun u0 e0 g0 h0 => ?_
          replace g0 : u0 = .int .i64 (SZ : Nat) := g0
          subst g0
          refine hf.depE hg hd 4 41 (by kernel_rfl) fun u1 e1 g1 h1 => ?_
          replace g1 : u1 = .int .i64 (N : Nat) := g1
          subst g1
          go_simp
          exact hK _ _ rfl (hW.upd 5 _ trivial)
        · intro r a w' hf hg hW hr hd K hK
          refine wpOp_of rfl rfl ?_
          refine hf.depE hg hd 0 37 (by kernel_rfl) fun u0 e0 g0 h0 => ?_
          replace g0 : u0 = .int .i64 (at_ : Nat) := g0
          subst g0
          refine hf.depE hg hd 5 42 (by kernel_rfl) fun u1 e1 g1 h1 => ?_
          replace g1 : u1 = .int .i64 (sn : Nat) := g1
          subst g1
          go_simp
          exact hK _ _ rfl (hW.upd 6 _ trivial)
        · intro r a w' hf hg hW hr hd K hK
          refine wpOp_of rfl rfl ?_
          have e0 : a.tmps.getD 3 undef = .pointer (some ⟨X.gR, 0, none⟩) := hf.evalFree (by kernel_rfl)
          have z0 := hW.m.1.rc
          go_simp
          exact hK _ _ rfl (hW.upd 7 _ trivial)
        · intro r a w' hf hg hW hr hd K hK
          refine wpOp_of rfl rfl ?_
          refine hf.depE hg hd 7 44 (by kernel_rfl) fun u0 e0 g0 h0 => ?_
          replace g0 : u0 = .slice X.R X.m X.cr := g0
          subst g0
          go_simp
          exact hK _ _ rfl (hW.upd 8 _ trivial)
        · intro r a w' hf hg hW hr hd K hK
          refine wpOp_of rfl rfl ?_
          refine hf.depE hg hd 6 43 (by kernel_rfl) fun u0 e0 g0 h0 => ?_
          replace g0 : u0 = .int .i64 (aq : Nat) := g0
          subst g0
          refine hf.depE hg hd 8 45 (by kernel_rfl) fun u1 e1 g1 h1 => ?_
          replace g1 : u1 = .int .i64 (X.m : Nat) := g1
          subst g1
          go_simp
          exact hK _ _ rfl (hW.upd 9 _ trivial)
      intro r' w3 hg hW hr'
      have hmN := hW.m
      obtain ⟨q9, hq9⟩ : ∃ u, r' 9 = some u := Option.ne_none_iff_exists'.1 (hr' 9 (by decide))
      have hk9 := hg 9 q9 hq9
      replace hk9 : q9 = .bool true := hk9
      subst hk9
      simp only [List.length_cons, List.length_nil, Nat.reduceAdd, List.range_succ, List.range_zero, List.nil_append, List.cons_append, List.map_cons, List.map_nil, putAll, Act.put, List.setIfInBounds_toArray, List.set_cons_succ, List.set_cons_zero, hq9, Option.getD_some]
      clear hg hW hr' hq9
      have HM3 := Lib.hid hmN
      clear hmN q1 q2 d1 d2
      have HQ := Lib.hid (show at_ + SZ * N ≤ X.m by rw [← HAS.out]; exact hle)
      have gfc := HM3.out.1.fc
      obtain ⟨f0, f1, f2⟩ := gfc
      go_wp2_with fail
      with_reducible refine (GAP.out N _ HM3.out.1.kp HQ.out).mono ?_
      rintro e wr4 ⟨rfl, k4⟩
      have HME4 := Lib.hid (HM3.out.1.no k4)
      have HKP4 := Lib.hid ((HKP.out.tr (HM3.out.2.mono fun _ _ h => .inl h)).no k4)
      have hb4 : ChB wr4 gc (C (N - 1)) := (HM3.out.2.no k4).heap HBX.out (fun e => HM3.out.1.ne (HM3.out.2.heap HBX.out (fun e => HME.out.ne HBX.out e)) e)
      have HB4 := Lib.hid hb4
      have hgl4 := hb4.cells.2.2.2.2
      have hsz4 := Lib.hid (show w.heap.size ≤ wr4.heap.size by have h1 := HK1.out.size; have h2 := HKA.out.size; have h3 := HKP4.out.size; omega)
      have REC := Lib.hid (fun (w0 : World) (k0 : Kp (Kq.One X.gK) wr4 w0) (hm : X.Me w0 (fun b => av b ∨ b = gc)) => IHH.out (k + 1) aq (fun b => av b ∨ b = gc) w0 (by have := HJ.out; omega) hle hm (fun b hb => by
        have h3 := k0.size
        rcases hb with hb | hb
        · have h1 := HAV.out b hb
          have h2 := hsz4.out
          omega
        · omega))
      obtain ⟨k1, hk1⟩ : ∃ k1, k1 = k + 1 := ⟨_, rfl⟩
      rw [← hk1] at REC
      have hk1w : IntKind.i64.wrap ((k : Int) + 1) = (k1 : Int) := by rw [IntKind.wrap_i64]; omega
      have q1 : IntKind.i64.wrap ((SZ : Int) * (N : Int)) = (sn : Int) := Q1.out
      have q2 : IntKind.i64.wrap ((at_ : Int) + (sn : Int)) = (aq : Int) := Q2.out
      have HCN := Lib.hid (show C N = chN (ggpN X.l X.r X.least k at_ N) (bstN X.l X.r X.least j aq) (C (N - 1)) by
        obtain ⟨M, rfl⟩ : ∃ M, N = M + 1 := ⟨N - 1, by omega⟩
        rw [HCS.out M, HAS.out]
        rfl)
      unfold pt at REC
      clear hk1 k4 hb4 f0 f1 f2 hgl4
      generalize ggpN X.l X.r X.least k at_ N = GG at *
      go_wp2_with fail
      refine wp_region_each (fun ix uR => match ix with | 0 => uR = .func (.func 28) #[] #[.pointer (some ⟨X.gF, 0, none⟩), .pointer (some ⟨X.gR, 0, none⟩), .pointer (some ⟨X.gK, 0, none⟩), .pointer (some ⟨X.gB, 0, none⟩)] | 1 => uR = .int .i64 (k : Nat) | 2 => uR = .int .i64 (k1 : Nat) | 3 => uR = .int .i64 (at_ : Nat) | 4 => uR = .agg #[.slice X.A X.n X.ca, .slice X.R X.m X.cr, .int .i64 X.least] | 5 => uR = .int .i64 (k : Nat) | 6 => uR = .int .i64 (SZ : Nat) | 7 => uR = .int .i64 (N : Nat) | 8 => uR = .int .i64 (sn : Nat) | 9 => uR = .int .i64 (aq : Nat) | _ => True) (HvM (fun wz => X.Me wz (fun b => av b ∨ b = gc) ∧ Kp (Kq.One X.gK) wr4 wz) (fun ix wz u => (ix = 10 → RecF X (fun b => av b ∨ b = gc) j aq wz u) ∧ (ix = 11 → RecF X (fun b => av b ∨ b = gc) j aq wz u) ∧ True)) (by kernel_rfl) (by kernel_rfl) (by kernel_rfl) ?_ ?_ ?_
      · exact HvM.start _ (⟨HME4.out.no (Kp.drew _ _), Kp.drew _ _⟩)
      · refine ⟨?_, ?_, ?_, ?_, ?_, ?_, ?_, ?_, ?_, ?_, ?_, ?_, trivial⟩
        · intro r a w' hf hg hW hr hd K hK
          refine wpOp_of rfl rfl ?_
          have e0 : a.tmps.getD 5 undef = .pointer (some ⟨X.gB, 0, none⟩) := hf.evalFree (by kernel_rfl)
          have z0 := hW.m.1.bc
          go_simp
          exact hK _ _ rfl (hW.upd 0 _ ⟨fun e => absurd e (by decide), fun e => absurd e (by decide), trivial⟩)
        · intro r a w' hf hg hW hr hd K hK
          refine wpOp_of rfl rfl ?_
          have e0 : a.tmps.getD 0 undef = .int .i64 (k : Nat) := hf.evalFree (by kernel_rfl)
          go_simp
          exact hK _ _ rfl (hW.upd 1 _ ⟨fun e => absurd e (by decide), fun e => absurd e (by decide), trivial⟩)
        · intro r a w' hf hg hW hr hd K hK
          refine wpOp_of rfl rfl ?_
          refine hf.depE hg hd 1 58 (by kernel_rfl) fun u0 e0 g0 h0 => ?_
          replace g0 : u0 = .int .i64 (k : Nat) := g0
          subst g0
          go_simp
          exact hK _ _ rfl (hW.upd 2 _ ⟨fun e => absurd e (by decide), fun e => absurd e (by decide), trivial⟩)
        · intro r a w' hf hg hW hr hd K hK
          refine wpOp_of rfl rfl ?_
          have e0 : a.tmps.getD 1 undef = .int .i64 (at_ : Nat) := hf.evalFree (by kernel_rfl)
          go_simp
          exact hK _ _ rfl (hW.upd 3 _ ⟨fun e => absurd e (by decide), fun e => absurd e (by decide), trivial⟩)
        · intro r a w' hf hg hW hr hd K hK
          refine wpOp_of rfl rfl ?_
          have e0 : a.tmps.getD 2 undef = .pointer (some ⟨X.gF, 0, none⟩) := hf.evalFree (by kernel_rfl)
          have z0 := hW.m.1.fc.1
          have z1 := hW.m.1.fc.2.1
          have z2 := hW.m.1.fc.2.2
          go_simp
          exact hK _ _ rfl (hW.upd 4 _ ⟨fun e => absurd e (by decide), fun e => absurd e (by decide), trivial⟩)
        · intro r a w' hf hg hW hr hd K hK
          refine wpOp_of rfl rfl ?_
          have e0 : a.tmps.getD 0 undef = .int .i64 (k : Nat) := hf.evalFree (by kernel_rfl)
          go_simp
          exact hK _ _ rfl (hW.upd 5 _ ⟨fun e => absurd e (by decide), fun e => absurd e (by decide), trivial⟩)
        · intro r a w' hf hg hW hr hd K hK
          refine wpOp_of rfl rfl ?_
          refine hf.depE hg hd 4 61 (by kernel_rfl) fun u0 e0 g0 h0 => ?_
          replace g0 : u0 = .agg #[.slice X.A X.n X.ca, .slice X.R X.m X.cr, .int .i64 X.least] := g0
          subst g0
          refine hf.depE hg hd 5 62 (by kernel_rfl) fun u1 e1 g1 h1 => ?_
          replace g1 : u1 = .int .i64 (k : Nat) := g1
          subst g1
          go_simp
          with_reducible refine (SIZ.out _).mono ?_
          rintro e w'' ⟨rfl, k⟩
          exact hK _ _ rfl ((hW.call ⟨hW.m.1.no k, hW.m.2.no k⟩ (fun ix u h => ⟨fun e => RecF.kp (h.1 e) hW.m.1 (k.mono fun _ _ h => h.elim), fun e => RecF.kp (h.2.1 e) hW.m.1 (k.mono fun _ _ h => h.elim), trivial⟩)).upd 6 _ ⟨fun e => absurd e (by decide), fun e => absurd e (by decide), trivial⟩)
        · intro r a w' hf hg hW hr hd K hK
          refine wpOp_of rfl rfl ?_
          have e0 : a.tmps.getD 10 undef = .int .i64 (N : Nat) := hf.evalFree (by kernel_rfl)
          go_simp
          exact hK _ _ rfl (hW.upd 7 _ ⟨fun e => absurd e (by decide), fun e => absurd e (by decide), trivial⟩)
        · intro r a w' hf hg hW hr hd K hK
          refine wpOp_of rfl rfl ?_
          refine hf.depE hg hd 6 63 (by kernel_rfl) fun u0 e0 g0 h0 => ?_
          replace g0 : u0 = .int .i64 (SZ : Nat) := g0
          subst g0
          refine hf.depE hg hd 7 64 (by kernel_rfl) fun u1 e1 g1 h1 => ?_
          replace g1 : u1 = .int .i64 (N : Nat) := g1
          subst g1
          go_simp
          exact hK _ _ rfl (hW.upd 8 _ ⟨fun e => absurd e (by decide), fun e => absurd e (by decide), trivial⟩)
        · intro r a w' hf hg hW hr hd K hK
          refine wpOp_of rfl rfl ?_
          refine hf.depE hg hd 3 60 (by kernel_rfl) fun u0 e0 g0 h0 => ?_
          replace g0 : u0 = .int .i64 (at_ : Nat) := g0
          subst g0
          refine hf.depE hg hd 8 65 (by kernel_rfl) fun u1 e1 g1 h1 => ?_
          replace g1 : u1 = .int .i64 (sn : Nat) := g1
          subst g1
          go_simp
          exact hK _ _ rfl (hW.upd 9 _ ⟨fun e => absurd e (by decide), fun e => absurd e (by decide), trivial⟩)
        · intro r a w' hf hg hW hr hd K hK
          refine wpOp_of rfl rfl ?_
          refine hf.depE hg hd 0 57 (by kernel_rfl) fun u0 e0 g0 h0 => ?_
          replace g0 : u0 = .func (.func 28) #[] #[.pointer (some ⟨X.gF, 0, none⟩), .pointer (some ⟨X.gR, 0, none⟩), .pointer (some ⟨X.gK, 0, none⟩), .pointer (some ⟨X.gB, 0, none⟩)] := g0
          subst g0
          refine hf.depE hg hd 2 59 (by kernel_rfl) fun u1 e1 g1 h1 => ?_
          replace g1 : u1 = .int .i64 (k1 : Nat) := g1
          subst g1
          refine hf.depE hg hd 9 66 (by kernel_rfl) fun u2 e2 g2 h2 => ?_
          replace g2 : u2 = .int .i64 (aq : Nat) := g2
          subst g2
          go_simp
          with_reducible refine (REC.out _ hW.m.2 hW.m.1).mono ?_
          rintro e w'' ⟨p, rfl, hp, hme2, hav2, k⟩
          exact hK _ _ trivial ((hW.call ⟨hme2, hW.m.2.tr k⟩ (fun ix u h => ⟨fun e => RecF.kp (h.1 e) hW.m.1 (k), fun e => RecF.kp (h.2.1 e) hW.m.1 (k), trivial⟩)).upd 10 _ ⟨fun _ => ⟨p, rfl, hp, hav2⟩, fun e => absurd e (by decide), trivial⟩)
        · intro r a w' hf hg hW hr hd K hK
          refine wpOp_of rfl rfl ?_
          refine hf.depE hg hd 10 67 (by kernel_rfl) fun u0 e0 g0 h0 => ?_
          have f0 := (hW.hv 10 u0 h0).1 rfl
          go_simp
          exact hK _ _ trivial (hW.upd 11 _ ⟨fun e => absurd e (by decide), fun _ => f0, trivial⟩)
      intro r' w5 hg hW hr'
      have hmN := hW.m
      obtain ⟨q11, hq11⟩ : ∃ u, r' 11 = some u := Option.ne_none_iff_exists'.1 (hr' 11 (by decide))
      have hF11 := (hW.hv 11 q11 hq11).2.1 rfl
      simp only [List.length_cons, List.length_nil, Nat.reduceAdd, List.range_succ, List.range_zero, List.nil_append, List.cons_append, List.map_cons, List.map_nil, putAll, Act.put, List.setIfInBounds_toArray, List.set_cons_succ, List.set_cons_zero, hq11, Option.getD_some]
      clear hg hW hr' hq11
      obtain ⟨p, hp, hpb, hpn⟩ := hF11
      subst hp
      have HM5 := Lib.hid hmN
      have hgc5 : ChB w5 gc (C (N - 1)) := hmN.2.heap HB4.out (HME4.out.ne HB4.out)
      have hpc := hpb.cells
      have hcc := hgc5.cells
      have HPB := Lib.hid hpb
      have HB5 := Lib.hid hgc5
      have HKP5 := Lib.hid (HKP4.out.tr (hmN.2.mono fun _ _ h => .inl h))
      generalize bstN X.l X.r X.least j aq = V at *
      generalize C (N - 1) = c at *
      obtain ⟨p0, p1, p2, p3, p4⟩ := hpc
      obtain ⟨c0, c1, c2, c3, c4⟩ := hcc
      obtain ⟨v1, v2⟩ := V
      obtain ⟨g1, g2⟩ := GG
      obtain ⟨x1, x2⟩ := c
      obtain ⟨mx, hmx⟩ : ∃ mx, mx = max g1 v1 := ⟨_, rfl⟩
      have hmxe : max g1 v1 = mx := hmx.symm
      have hmxi : (if g1 < v1 then v1 else g1) = mx := by rw [hmx]; split <;> omega
      have HMX := Lib.hid hmx
      clear hmx hmN hpb hgc5 hk1w q1 q2 hpn
      dsimp only at p0 p1 c0 c1
      unfold pt
      have hkeep : Hid (C N = (x1, x2) → ∃ N' : Nat, 1 ≤ N' ∧ Value.int IntKind.i64 ((N : Int) + 1) = Value.int IntKind.i64 (N' : Nat) ∧ at_ + SZ * (N' - 1) ≤ X.m ∧ X.Me w5 (fun b => av b ∨ b = gc) ∧ ChB w5 gc (C (N' - 1)) ∧ Kp (fun b => b = X.gK ∨ b = gc) w2 w5) := Lib.hid (fun h => ⟨N + 1, by omega, by go_num, by rw [Nat.add_sub_cancel]; exact HQ.out, HM5.out.1, by rw [Nat.add_sub_cancel, h]; exact HB5.out, HKP5.out⟩)
      have hturn : Hid (C N = (mx, true) → ∃ N' : Nat, 1 ≤ N' ∧ Value.int IntKind.i64 ((N : Int) + 1) = Value.int IntKind.i64 (N' : Nat) ∧ at_ + SZ * (N' - 1) ≤ X.m ∧ X.Me ((w5.setCell ⟨gc, 0, none⟩ (.int .i64 mx)).setCell ⟨gc, 1, none⟩ (.bool true)) (fun b => av b ∨ b = gc) ∧ ChB ((w5.setCell ⟨gc, 0, none⟩ (.int .i64 mx)).setCell ⟨gc, 1, none⟩ (.bool true)) gc (C (N' - 1)) ∧ Kp (fun b => b = X.gK ∨ b = gc) w2 ((w5.setCell ⟨gc, 0, none⟩ (.int .i64 mx)).setCell ⟨gc, 1, none⟩ (.bool true))) := Lib.hid (fun h => by
        obtain ⟨t1, t2⟩ := HB5.out.set mx true
        exact ⟨N + 1, by omega, by go_num, by rw [Nat.add_sub_cancel]; exact HQ.out, HM5.out.1.turn HB5.out (by have h1 := HM1.out.kp.size; have := HGC.out; omega) t2, by rw [Nat.add_sub_cancel, h]; exact t1, HKP5.out.tr (t2.mono fun b _ e => .inr e)⟩)
      have hmeas : Hid (X.m + 1 - N < X.m + 2 - N) := Lib.hid (by
        have h1 := Nat.mul_le_mul_right N hs1
        have h2 := HQ.out
        omega)
      clear HKP HKP4 HB5 HKP5 HPB HB4 HM3 hsn2
      cases g2
      · have HCC := Lib.hid (show C N = (x1, x2) by rw [HCN.out]; rfl)
        go_wp2_with fail
        go_roundw
        case rel => exact hkeep.out HCC.out
        case measure => simp [intOf]; exact hmeas.out
      · cases v2
        · have HCC := Lib.hid (show C N = (x1, x2) by rw [HCN.out]; rfl)
          go_wp2_with fail
          go_roundw
          case rel => exact hkeep.out HCC.out
          case measure => simp [intOf]; exact hmeas.out
        · cases x2
          · have HCC := Lib.hid (show C N = (mx, true) by rw [HCN.out, HMX.out]; rfl)
            go_wp2_with fail
            go_roundw
            case rel => exact hturn.out HCC.out
            case measure => simp [intOf]; exact hmeas.out
          · by_cases hlt : mx < x1
            · have HCC := Lib.hid (show C N = (mx, true) by rw [HCN.out, HMX.out]; unfold chN; rw [HMX.out] at hlt; simp [hlt])
              go_wp2_with fail
              go_roundw
              case rel => exact hturn.out HCC.out
              case measure => simp [intOf]; exact hmeas.out
            · have HCC := Lib.hid (show C N = (x1, true) by rw [HCN.out]; unfold chN; rw [HMX.out] at hlt; simp [hlt])
              go_wp2_with fail
              go_roundw
              case rel => exact hkeep.out HCC.out
              case measure => simp [intOf]; exact hmeas.out
    · have d1 : decide (aq ≤ X.m) = false := by simp; omega
      have d2 : decide ((aq : Int) ≤ (X.m : Int)) = false := by simp; omega
      go_wp2_with fail
      refine wp_region_each (fun ix uR => match ix with | 0 => uR = .int .i64 (at_ : Nat) | 1 => uR = .agg #[.slice X.A X.n X.ca, .slice X.R X.m X.cr, .int .i64 X.least] | 2 => uR = .int .i64 (k : Nat) | 3 => uR = .int .i64 (SZ : Nat) | 4 => uR = .int .i64 (N : Nat) | 5 => uR = .int .i64 (sn : Nat) | 6 => uR = .int .i64 (aq : Nat) | 7 => uR = .slice X.R X.m X.cr | 8 => uR = .int .i64 (X.m : Nat) | 9 => uR = .bool false | _ => True) (HvM (fun wz => X.Me wz (fun b => av b ∨ b = gc) ∧ Kp (Kq.One X.gK) wr wz) (fun ix wz u => True)) (by kernel_rfl) (by kernel_rfl) (by kernel_rfl) ?_ ?_ ?_
      · exact HvM.start _ (⟨HME.out.no (Kp.drew _ _), Kp.drew _ _⟩)
      · refine ⟨?_, ?_, ?_, ?_, ?_, ?_, ?_, ?_, ?_, ?_, trivial⟩
        · intro r a w' hf hg hW hr hd K hK
          refine wpOp_of rfl rfl ?_
          have e0 : a.tmps.getD 1 undef = .int .i64 (at_ : Nat) := hf.evalFree (by kernel_rfl)
          go_simp
          exact hK _ _ rfl (hW.upd 0 _ trivial)
        · intro r a w' hf hg hW hr hd K hK
          refine wpOp_of rfl rfl ?_
          have e0 : a.tmps.getD 2 undef = .pointer (some ⟨X.gF, 0, none⟩) := hf.evalFree (by kernel_rfl)
          have z0 := hW.m.1.fc.1
          have z1 := hW.m.1.fc.2.1
          have z2 := hW.m.1.fc.2.2
          go_simp
          exact hK _ _ rfl (hW.upd 1 _ trivial)
        · intro r a w' hf hg hW hr hd K hK
          refine wpOp_of rfl rfl ?_
          have e0 : a.tmps.getD 0 undef = .int .i64 (k : Nat) := hf.evalFree (by kernel_rfl)
          go_simp
          exact hK _ _ rfl (hW.upd 2 _ trivial)
        · intro r a w' hf hg hW hr hd K hK
          refine wpOp_of rfl rfl ?_
          refine hf.depE hg hd 1 38 (by kernel_rfl) fun u0 e0 g0 h0 => ?_
          replace g0 : u0 = .agg #[.slice X.A X.n X.ca, .slice X.R X.m X.cr, .int .i64 X.least] := g0
          subst g0
          refine hf.depE hg hd 2 39 (by kernel_rfl) fun u1 e1 g1 h1 => ?_
          replace g1 : u1 = .int .i64 (k : Nat) := g1
          subst g1
          go_simp
          with_reducible refine (SIZ.out _).mono ?_
          rintro e w'' ⟨rfl, k⟩
          exact hK _ _ rfl ((hW.call ⟨hW.m.1.no k, hW.m.2.no k⟩ fun _ _ h => h).upd 3 _ trivial)
        · intro r a w' hf hg hW hr hd K hK
          refine wpOp_of rfl rfl ?_
          have e0 : a.tmps.getD 10 undef = .int .i64 (N : Nat) := hf.evalFree (by kernel_rfl)
          go_simp
          exact hK _ _ rfl (hW.upd 4 _ trivial)
        · intro r a w' hf hg hW hr hd K hK
          refine wpOp_of rfl rfl ?_
          refine hf.depE hg hd 3 40 (by kernel_rfl) fun u0 e0 g0 h0 => ?_
          replace g0 : u0 = .int .i64 (SZ : Nat) := g0
          subst g0
          refine hf.depE hg hd 4 41 (by kernel_rfl) fun u1 e1 g1 h1 => ?_
          replace g1 : u1 = .int .i64 (N : Nat) := g1
          subst g1
          go_simp
          exact hK _ _ rfl (hW.upd 5 _ trivial)
        · intro r a w' hf hg hW hr hd K hK
          refine wpOp_of rfl rfl ?_
          refine hf.depE hg hd 0 37 (by kernel_rfl) fun u0 e0 g0 h0 => ?_
          replace g0 : u0 = .int .i64 (at_ : Nat) := g0
          subst g0
          refine hf.depE hg hd 5 42 (by kernel_rfl) fun u1 e1 g1 h1 => ?_
          replace g1 : u1 = .int .i64 (sn : Nat) := g1
          subst g1
          go_simp
          exact hK _ _ rfl (hW.upd 6 _ trivial)
        · intro r a w' hf hg hW hr hd K hK
          refine wpOp_of rfl rfl ?_
          have e0 : a.tmps.getD 3 undef = .pointer (some ⟨X.gR, 0, none⟩) := hf.evalFree (by kernel_rfl)
          have z0 := hW.m.1.rc
          go_simp
          exact hK _ _ rfl (hW.upd 7 _ trivial)
        · intro r a w' hf hg hW hr hd K hK
          refine wpOp_of rfl rfl ?_
          refine hf.depE hg hd 7 44 (by kernel_rfl) fun u0 e0 g0 h0 => ?_
          replace g0 : u0 = .slice X.R X.m X.cr := g0
          subst g0
          go_simp
          exact hK _ _ rfl (hW.upd 8 _ trivial)
        · intro r a w' hf hg hW hr hd K hK
          refine wpOp_of rfl rfl ?_
          refine hf.depE hg hd 6 43 (by kernel_rfl) fun u0 e0 g0 h0 => ?_
          replace g0 : u0 = .int .i64 (aq : Nat) := g0
          subst g0
          refine hf.depE hg hd 8 45 (by kernel_rfl) fun u1 e1 g1 h1 => ?_
          replace g1 : u1 = .int .i64 (X.m : Nat) := g1
          subst g1
          go_simp
          exact hK _ _ rfl (hW.upd 9 _ trivial)
      intro r' w3 hg hW hr'
      have hmN := hW.m
      obtain ⟨q9, hq9⟩ : ∃ u, r' 9 = some u := Option.ne_none_iff_exists'.1 (hr' 9 (by decide))
      have hk9 := hg 9 q9 hq9
      replace hk9 : q9 = .bool false := hk9
      subst hk9
      simp only [List.length_cons, List.length_nil, Nat.reduceAdd, List.range_succ, List.range_zero, List.nil_append, List.cons_append, List.map_cons, List.map_nil, putAll, Act.put, List.setIfInBounds_toArray, List.set_cons_succ, List.set_cons_zero, hq9, Option.getD_some]
      clear hg hW hr' hq9
      have HM3 := Lib.hid hmN
      clear hmN q1 q2 d1 d2
      obtain ⟨⟨kv, hkv⟩, hkf⟩ := HM3.out.1.kc hkj7 hat61
      have hgc3 : ChB w3 gc (bstN X.l X.r X.least (X.J - k) at_) := by
        have h := HM3.out.2.heap HBX.out (HME.out.ne HBX.out)
        have e := div_at hs1 hN hNm (by rw [← HAS.out]; exact hle)
        have h2 := BST.out
        rw [e] at h2
        rw [show X.J - k = j + 1 by have := HJ.out; omega, h2]
        exact h
      have PUT := Lib.hid (HM3.out.1.put H.hg hgc3 (fun h => by have h1 := HAV.out _ h; have h2 := HK1.out.size; have := HGC.out; omega) (by have := HJ.out; omega) hat61)
      have HK3 := Lib.hid (show Kp (Kq.One X.gK) w w3 by
        have hA : Kp (Kq.One X.gK) w w2 := (HK1.out.tr HKA.out).mono fun _ _ h => h.elim
        have hB : Kp (fun b => b = X.gK ∨ b = gc) w2 w3 := HKP.out.tr (HM3.out.2.mono fun _ _ h => .inl h)
        refine hA.trans hB fun b hb h => ?_
        rcases h with h | h
        · exact h
        · have h1 := HGC.out
          have h2 := HK1.out.size
          omega)
      clear hgc3
      go_wp2_with fail
      go_ret
      refine ⟨gc, rfl, ?_, PUT.out.1, fun h => ?_, HK3.out.tr PUT.out.2.1⟩
      · rw [show j + 1 = X.J - k by have := HJ.out; omega]
        exact PUT.out.2.2
      · have h1 := HAV.out _ h
        have h2 := HK1.out.size
        have := HGC.out
        omega
theorem best_any (X : Cx) (H : X.Ok) : ∀ j, BstC X j
  | 0 => best_zero X H
  | j + 1 => best_succ X H j (best_any X H j)
end Go.Proofs.YtakgcnjpmpcekaaGreat
