/- Chapter 09: the reference's higher and falling: the order of cuts. · A walk stops at a load of a given slot. No program in sight. · Chapter 09: the reference's Groups: the walk. · An exchange of two elements of a row of one cell each (x[i], x[j] = x[j], x[i]), which may be the same, in a region that draws its order. No program in sight. · Chapter 09: the sort by the order of cuts: the state of the row. -/
import Derived.Deep.CutBlock
import Derived.Deep.CutRange
import Derived.Sort.Grow
import Derived.BigQuiet
import Derived.StillTailTactics
import Derived.TacticsIn
import Derived.Sort.AssemblyPlain
import Derived.Test.YtamjhpdgclbfgaaXSsQM
import Derived.Test.YtamjhpdgclbfgaaXLibHvM
import Derived.Test.YtamjhpdgclbfgaaXLibRowM
import Derived.Test.YtamjhpdgclbfgaaXLibQs
import Derived.Test.YtamjhpdgclbfgaaXAcWM
import Derived.Test.YtamjhpdgclbfgaaXSrtIM
import Derived.Test.YtamjhpdgclbfgaaXSpsM
namespace Go.Proofs.Ytamjhpdgclbfgaa
open Go.RowKit Go.Kq

end Go.Proofs.Ytamjhpdgclbfgaa

namespace Go.Kq
open Go.RowKit

end Go.Kq

namespace Go.Proofs.Ytamjhpdgclbfgaa
open Go.RowKit Go.Kq

/-- An element of a row of lists. -/
def LEl (g : Nat) (w : World) (v u : Value) (S : List Nat) : Prop := ∃ A n c, u = .slice A n c ∧ (A = none → n = 0 ∧ c = 0) ∧ RdI .i64 w A n (S.map Int.ofNat) ∧ ∀ b o, A = some ⟨b, o, none⟩ → g ≤ b ∧ b < w.heap.size ∧ v.ownBlock ≠ some b
def RowL (base : Nat) (w : World) (v : Value) (Ls : List (List Nat)) : Prop := ∃ us : List Value, us.length = Ls.length ∧ w.ownsRow base 57 1 v Ls.length us ∧ ∀ (i : Nat) u S, us[i]? = some u → Ls[i]? = some S → LEl base w v u S
/-- A slice of lists that is read alone; its blocks are g or behind. -/
def RdL (g : Nat) (w : World) (A : Option Addr) (n : Nat) (Ls : List (List Nat)) : Prop := Ls.length = n ∧ ∀ (i : Nat) S, Ls[i]? = some S → ∃ b o A' n' c', A = some ⟨b, o, none⟩ ∧ (g ≤ b ∧ b < w.heap.size) ∧ w.cell? ⟨b, o + i, none⟩ = some (.slice A' n' c') ∧ (A' = none → n' = 0 ∧ c' = 0) ∧ RdI .i64 w A' n' (S.map Int.ofNat) ∧ ∀ b o, A' = some ⟨b, o, none⟩ → g ≤ b ∧ b < w.heap.size
theorem RdL.kp {T : Nat → Prop} {g : Nat} {w w' : World} {A : Option Addr} {n : Nat} {Ls : List (List Nat)} (h : RdL g w A n Ls) (k : Kp T w w') (hT : ∀ b, g ≤ b → b < w.heap.size → ¬ T b) : RdL g w' A n Ls := ⟨h.1, fun i S hS => by
  obtain ⟨b, o, A', n', c', h1, h2, h3, h4, h5, h6⟩ := h.2 i S hS
  exact ⟨b, o, A', n', c', h1, ⟨h2.1, Nat.lt_of_lt_of_le h2.2 k.size⟩, k.cell h3 (hT b h2.1 h2.2), h4, h5.kp k (fun b o e hb => hT b (h6 b o e).1 hb), fun b o e => ⟨(h6 b o e).1, Nat.lt_of_lt_of_le (h6 b o e).2 k.size⟩⟩⟩
theorem RdL.no {g : Nat} {w w' : World} {A : Option Addr} {n : Nat} {Ls : List (List Nat)} (h : RdL g w A n Ls) (k : Kp No w w') : RdL g w' A n Ls := h.kp k fun _ _ _ h => h
theorem RdL.mono {g g' : Nat} {w : World} {A : Option Addr} {n : Nat} {Ls : List (List Nat)} (h : RdL g w A n Ls) (k : g' ≤ g) : RdL g' w A n Ls := ⟨h.1, fun i S hS => by
  obtain ⟨b, o, A', n', c', h1, h2, h3, h4, h5, h6⟩ := h.2 i S hS
  exact ⟨b, o, A', n', c', h1, ⟨Nat.le_trans k h2.1, h2.2⟩, h3, h4, h5, fun b o e => ⟨Nat.le_trans k (h6 b o e).1, (h6 b o e).2⟩⟩⟩
theorem RowL.nil (base : Nat) (w : World) : RowL base w (.slice none 0 0) [] := ⟨[], rfl, World.ownsRow_nil w _ _ _, fun i u S h => by simp at h⟩
theorem LEl.no {g : Nat} {w w' : World} {v u : Value} {S : List Nat} (h : LEl g w v u S) (k : Kp No w w') : LEl g w' v u S := by
  obtain ⟨A, n, c, h1, h2, h3, h4⟩ := h
  exact ⟨A, n, c, h1, h2, h3.no k, fun b o e => ⟨(h4 b o e).1, Nat.lt_of_lt_of_le (h4 b o e).2.1 k.size, (h4 b o e).2.2⟩⟩
theorem RowL.no {base : Nat} {w w' : World} {v : Value} {Ls : List (List Nat)} (h : RowL base w v Ls) (k : Kp No w w') : RowL base w' v Ls := by
  obtain ⟨us, h1, h2, h3⟩ := h
  exact ⟨us, h1, own_kp h2 k (fun _ _ h => h), fun i u S hu hS => (h3 i u S hu hS).no k⟩
theorem RowL.form {base : Nat} {w : World} {v : Value} {Ls : List (List Nat)} (h : RowL base w v Ls) : ∃ a c, v = .slice a Ls.length c := by
  obtain ⟨us, h1, h2, h3⟩ := h
  obtain ⟨a, c, h4, _⟩ := own_form h2
  exact ⟨a, c, h4⟩
theorem RowL.rd {base : Nat} {w : World} {A : Option Addr} {n c : Nat} {Ls : List (List Nat)} (h : RowL base w (.slice A n c) Ls) : RdL base w A n Ls := by
  obtain ⟨us, h1, h2, h3⟩ := h
  obtain ⟨a, c', h4, _, _, h6⟩ := own_form h2
  injection h4 with e1 e2 e3
  subst e1 e2 e3
  refine ⟨rfl, fun i S hS => ?_⟩
  have hi := (List.getElem?_eq_some_iff.1 hS).1
  obtain ⟨g, rfl⟩ := h6 (by omega)
  obtain ⟨u, hu⟩ : ∃ u, us[i]? = some u := ⟨_, List.getElem?_eq_getElem (by omega)⟩
  obtain ⟨A', n', c', rfl, q1, q2, q3⟩ := h3 i u S hu hS
  exact ⟨g, 0, A', n', c', rfl, own_ge h2 (g := g) rfl, by rw [Nat.zero_add]; exact own_cell h2 hu, q1, q2, fun b o e => ⟨(q3 b o e).1, (q3 b o e).2.1⟩⟩
/-- One list more behind a row of lists; the list's row is the last thing that was laid. -/
theorem RowL.snoc {base : Nat} {w1 w5 : World} {v v' : Value} {Ls : List (List Nat)} {S : List Nat} {B m n c : Nat} {A : Option Addr} (hB : base ≤ B) (hm : Ls.length = m) (hn : A = none → n = 0 ∧ c = 0) (hr : RdI .i64 w1 A n (S.map Int.ofNat)) (hA : ∀ b o, A = some ⟨b, o, none⟩ → B ≤ b ∧ b < w1.heap.size) (hv : ∀ b, v.ownBlock = some b → b < B)
    (hgrow : w1.grownBy w5 v.ownBlock) (hat : v'.ownBlock = v.ownBlock ∨ v'.ownBlock = some w1.heap.size) (us : List Value) (h1 : us.length = Ls.length) (h3 : ∀ (i : Nat) u S, us[i]? = some u → Ls[i]? = some S → LEl base w1 v u S)
    (hown : w5.ownsRow base 57 1 v' (m + 1) (us ++ [.slice A n c])) : RowL base w5 v' (Ls ++ [S]) := by
  subst hm
  have hk : Kp (fun k => v.ownBlock = some k) w1 w5 := Kp.grown hgrow fun k hk _ => hk
  have turn : ∀ b, b < w1.heap.size → v.ownBlock ≠ some b → v'.ownBlock ≠ some b := fun b h1 h2 e => by
    rcases hat with hat | hat
    · exact h2 (hat ▸ e)
    · rw [hat] at e
      injection e with e
      omega
  refine ⟨us ++ [.slice A n c], by simp [h1], by simpa using hown, fun i u T hu hT => ?_⟩
  rcases Nat.lt_or_ge i us.length with hi | hi
  · rw [List.getElem?_append_left hi] at hu
    rw [List.getElem?_append_left (by omega)] at hT
    obtain ⟨A', n', c', e1, e2, e3, e4⟩ := h3 i u T hu hT
    exact ⟨A', n', c', e1, e2, e3.kp hk (fun b o e _ => (e4 b o e).2.2), fun b o e => ⟨(e4 b o e).1, Nat.lt_of_lt_of_le (e4 b o e).2.1 hk.size, turn b (e4 b o e).2.1 (e4 b o e).2.2⟩⟩
  · rw [List.getElem?_append_right hi] at hu
    rw [List.getElem?_append_right (by omega)] at hT
    have h0 : i - us.length = 0 := by
      rcases Nat.eq_zero_or_pos (i - us.length) with h | h
      · exact h
      · rw [List.getElem?_eq_none (by simp; omega)] at hu
        cases hu
    rw [h0] at hu
    rw [← h1, h0] at hT
    simp at hu hT
    subst hu hT
    have fresh : ∀ b o, A = some ⟨b, o, none⟩ → v.ownBlock ≠ some b := fun b o e h => by
      have := (hA b o e).1
      have := hv b h
      omega
    exact ⟨A, n, c, rfl, hn, hr.kp hk (fun b o e _ h => fresh b o e h), fun b o e => ⟨Nat.le_trans hB (hA b o e).1, Nat.lt_of_lt_of_le (hA b o e).2 hk.size, turn b (hA b o e).2 (fresh b o e)⟩⟩
end Go.Proofs.Ytamjhpdgclbfgaa

namespace Go.Kq
open Go.RowKit

/-- The row behind some of the two stores. -/
def curS (xs : List Value) (i j : Nat) (vi vj : Value) (a b : Bool) : List Value :=
  if i = j then xs else (if b then (if a then xs.set i vj else xs).set j vi else (if a then xs.set i vj else xs))
theorem curS_len (xs : List Value) (i j : Nat) (vi vj : Value) (a b : Bool) : (curS xs i j vi vj a b).length = xs.length := by
  unfold curS
  split
  · rfl
  · cases a <;> cases b <;> simp
/-- Operation la loads element j (vj), lb element i (vi); sa stores vj into i, sb stores vi into j. -/
structure Sx (w0 : World) (g base : Nat) (e : TypeId) (n c : Nat) (xs : List Value) (i j : Nat) (vi vj : Value) (la lb sa sb : Nat) (r : Nat → Option Value) (w : World) : Prop where
  hi : xs[i]? = some vi
  hj : xs[j]? = some vj
  kp : Kp (One g) w0 w
  row : w.ownsRow base e 1 (.slice (some ⟨g, 0, none⟩) n c) n (curS xs i j vi vj (r sa).isSome (r sb).isSome)
  da : r sa ≠ none → r lb ≠ none
  db : r sb ≠ none → r la ≠ none
section
variable {w0 w w' : World} {g base : Nat} {e : TypeId} {n c : Nat} {xs : List Value} {i j : Nat} {vi vj : Value} {la lb sa sb : Nat} {r : Nat → Option Value}
theorem Sx.start (h : w0.ownsRow base e 1 (.slice (some ⟨g, 0, none⟩) n c) n xs) (hi : xs[i]? = some vi) (hj : xs[j]? = some vj) : Sx w0 g base e n c xs i j vi vj la lb sa sb (fun _ => none) w0.drew :=
  ⟨hi, hj, Kp.drew _ _, by
    have : curS xs i j vi vj false false = xs := by unfold curS; split <;> rfl
    show w0.drew.ownsRow base e 1 _ n (curS xs i j vi vj false false)
    rw [this]
    exact (Kp.drew No w0).owns h fun _ _ h => h, fun h => absurd rfl h, fun h => absurd rfl h⟩
theorem Sx.upd (h : Sx w0 g base e n c xs i j vi vj la lb sa sb r w) (k : Nat) (v : Value) (h1 : k ≠ sa) (h2 : k ≠ sb) : Sx w0 g base e n c xs i j vi vj la lb sa sb (Kq.upd r k v) w := by
  have e1 := upd_ne r v h1.symm
  have e2 := upd_ne r v h2.symm
  have some_ : ∀ q, r q ≠ none → Kq.upd r k v q ≠ none := fun q hq => by
    by_cases hk : q = k
    · rw [hk, upd_same]
      simp
    · rw [upd_ne _ _ hk]
      exact hq
  exact ⟨h.hi, h.hj, h.kp, by rw [e1, e2]; exact h.row, fun x => some_ _ (h.da (e1 ▸ x)), fun x => some_ _ (h.db (e2 ▸ x))⟩
theorem Sx.loadj (h : Sx w0 g base e n c xs i j vi vj la lb sa sb r w) (hr : r la = none) : w.cell? ⟨g, j, none⟩ = some vj := by
  have hb : r sb = none := by
    cases hs : r sb with
    | none => rfl
    | some u => exact absurd hr (h.db (by rw [hs]; simp))
  have hrow := h.row
  rw [hb] at hrow
  refine own_cell hrow ?_
  unfold curS
  by_cases hne : i = j
  · rw [if_pos hne]
    exact h.hj
  · rw [if_neg hne]
    cases (r sa).isSome
    · exact h.hj
    · show (xs.set i vj)[j]? = some vj
      rw [List.getElem?_set_ne hne, h.hj]
theorem Sx.loadi (h : Sx w0 g base e n c xs i j vi vj la lb sa sb r w) (hr : r lb = none) : w.cell? ⟨g, i, none⟩ = some vi := by
  have ha : r sa = none := by
    cases hs : r sa with
    | none => rfl
    | some u => exact absurd hr (h.da (by rw [hs]; simp))
  have hrow := h.row
  rw [ha] at hrow
  refine own_cell hrow ?_
  unfold curS
  by_cases hne : i = j
  · rw [if_pos hne]
    exact h.hi
  · rw [if_neg hne]
    cases (r sb).isSome
    · exact h.hi
    · show (xs.set j vi)[i]? = some vi
      rw [List.getElem?_set_ne (fun e => hne e.symm), h.hi]
theorem set_self_ {xs : List Value} {i : Nat} {v : Value} (h : xs[i]? = some v) : xs.set i v = xs := by
  refine List.ext_getElem? fun j => ?_
  by_cases e : i = j
  · subst e
    rw [List.getElem?_set_self (List.getElem?_eq_some_iff.1 h).1, h]
  · rw [List.getElem?_set_ne e]
theorem Sx.same (h : Sx w0 g base e n c xs i j vi vj la lb sa sb r w) (hij : i = j) : vi = vj := by
  have h1 := h.hi
  rw [hij, h.hj] at h1
  exact (Option.some.inj h1).symm
theorem Sx.sta (h : Sx w0 g base e n c xs i j vi vj la lb sa sb r w) (hr : r sa = none) (hl : r lb ≠ none) (hne : sa ≠ sb ∧ sa ≠ lb ∧ sa ≠ la) (x : Value) : Sx w0 g base e n c xs i j vi vj la lb sa sb (Kq.upd r sa x) (w.setCell ⟨g, i, none⟩ vj) := by
  have e2 := upd_ne r x hne.1.symm
  have e3 := upd_ne r x hne.2.1.symm
  have e4 := upd_ne r x hne.2.2.symm
  have hrow := own_set h.row i vj
  refine ⟨h.hi, h.hj, h.kp.tr (kp_setOne _ _ _ _), ?_, fun _ => by rw [e3]; exact hl, fun y => by rw [e4]; exact h.db (e2 ▸ y)⟩
  rw [upd_same, e2]
  rw [hr] at hrow
  by_cases hij : i = j
  · have hs := h.same hij
    unfold curS at hrow ⊢
    rw [if_pos hij] at hrow ⊢
    rw [← hs, set_self_ h.hi] at hrow
    rw [← hs]
    exact hrow
  · unfold curS at hrow ⊢
    rw [if_neg hij] at hrow ⊢
    cases hs : (r sb).isSome with
    | false => rw [hs] at hrow; exact hrow
    | true =>
      rw [hs] at hrow
      replace hrow : (w.setCell ⟨g, i, none⟩ vj).ownsRow base e 1 (.slice (some ⟨g, 0, none⟩) n c) n ((xs.set j vi).set i vj) := hrow
      show (w.setCell ⟨g, i, none⟩ vj).ownsRow base e 1 (.slice (some ⟨g, 0, none⟩) n c) n ((xs.set i vj).set j vi)
      rw [List.set_comm _ _ hij]
      exact hrow
theorem Sx.stb (h : Sx w0 g base e n c xs i j vi vj la lb sa sb r w) (hr : r sb = none) (hl : r la ≠ none) (hne : sb ≠ sa ∧ sb ≠ lb ∧ sb ≠ la) (x : Value) : Sx w0 g base e n c xs i j vi vj la lb sa sb (Kq.upd r sb x) (w.setCell ⟨g, j, none⟩ vi) := by
  have e2 := upd_ne r x hne.1.symm
  have e3 := upd_ne r x hne.2.1.symm
  have e4 := upd_ne r x hne.2.2.symm
  have hrow := own_set h.row j vi
  refine ⟨h.hi, h.hj, h.kp.tr (kp_setOne _ _ _ _), ?_, fun y => by rw [e3]; exact h.da (e2 ▸ y), fun _ => by rw [e4]; exact hl⟩
  rw [upd_same, e2]
  rw [hr] at hrow
  by_cases hij : i = j
  · have hs := h.same hij
    unfold curS at hrow ⊢
    rw [if_pos hij] at hrow ⊢
    rw [hs, set_self_ h.hj] at hrow
    rw [hs]
    exact hrow
  · unfold curS at hrow ⊢
    rw [if_neg hij] at hrow ⊢
    exact hrow
theorem Sx.fin (h : Sx w0 g base e n c xs i j vi vj la lb sa sb r w) (h1 : r sa ≠ none) (h2 : r sb ≠ none) : w.ownsRow base e 1 (.slice (some ⟨g, 0, none⟩) n c) n ((xs.set i vj).set j vi) := by
  obtain ⟨z1, hz1⟩ := Option.ne_none_iff_exists'.1 h1
  obtain ⟨z2, hz2⟩ := Option.ne_none_iff_exists'.1 h2
  have hrow := h.row
  rw [hz1, hz2] at hrow
  unfold curS at hrow
  by_cases hij : i = j
  · have hs := h.same hij
    rw [if_pos hij] at hrow
    rw [hs, ← hij, show vj = vi from hs.symm, set_self_ h.hi, set_self_ h.hi]
    exact hrow
  · rw [if_neg hij] at hrow
    exact hrow
theorem Sx.free (h : Sx w0 g base e n c xs i j vi vj la lb sa sb r w) (k : Nat) : w.frozen? ⟨g, k, none⟩ = false := own_free h.row k
theorem Sx.old (h : Sx w0 g base e n c xs i j vi vj la lb sa sb r w) {k : Nat} (hk : k < n) (hl : xs.length = n) : ∃ old, w.cell? ⟨g, k, none⟩ = some old := ⟨_, own_cell h.row (List.getElem?_eq_getElem (by rw [curS_len, hl]; exact hk))⟩
end
end Go.Kq

namespace Go.Proofs.Ytamjhpdgclbfgaa
open Go.RowKit Go.Kq Go.Sort

structure Srt (base g m cap n : Nat) (w : World) (d : Array Nat) (W : World) : Prop where
  row : W.ownsRow base 3 1 (.slice (some ⟨g, 0, none⟩) m cap) m (d.toList.map natI)
  lt : ∀ i, i < m → d[i]! < n
  k : Kp (One g) w W
section
variable {base g m cap n : Nat} {w W W' : World} {d : Array Nat} {i j x y : Nat}
theorem Srt.sz (h : Srt base g m cap n w d W) : d.size = m := by
  have := h.row.1
  simpa using this
theorem Srt.at_ (h : Srt base g m cap n w d W) (hi : i < m) (hx : d[i]! = x) : (d.toList.map natI)[i]? = some (.int .i64 (x : Nat)) := by
  have hs := h.sz
  rw [List.getElem?_map, Array.getElem?_toList, Array.getElem?_eq_getElem (by omega)]
  rw [getElem!_pos d i (by omega)] at hx
  rw [hx]
  rfl
theorem Srt.c (h : Srt base g m cap n w d W) (hi : i < m) (hx : d[i]! = x) : W.cell? ⟨g, i, none⟩ = some (.int .i64 (x : Nat)) := own_cell h.row (h.at_ hi hx)
theorem Srt.blk (h : Srt base g m cap n w d W) : base ≤ g ∧ g < W.heap.size := own_ge h.row rfl
theorem Srt.cg (h : Srt base g m cap n w d W) (hi : i < m) (hx : d[i]! = x) (N : Nat) (os : Array Obj) : (grow (W.drewN N) os).cell? ⟨g, i, none⟩ = some (.int .i64 (x : Nat)) := cell_grown h.blk.2 (h.c hi hx) N os
theorem Srt.grown (h : Srt base g m cap n w d W) (hg : ∃ q os, W' = grow (W.drewN q) os) : Srt base g m cap n w d W' := by
  have hk := kp_of_grow hg
  exact ⟨hk.owns h.row fun _ _ h => h, h.lt, h.k.no hk⟩
theorem Srt.no (h : Srt base g m cap n w d W) (hk : Kp No W W') : Srt base g m cap n w d W' := ⟨hk.owns h.row fun _ _ h => h, h.lt, h.k.no hk⟩
theorem swp_row (d : Array Nat) {i j x y : Nat} (hx : d[i]! = x) (hy : d[j]! = y) : ((d.toList.map natI).set i (.int .i64 (y : Nat))).set j (.int .i64 (x : Nat)) = (swp d i j).toList.map natI := by
  unfold swp
  rw [Array.toList_setIfInBounds, Array.toList_setIfInBounds, List.map_set, List.map_set, hx, hy]
  rfl
theorem Srt.swp (h : Srt base g m cap n w d W) (hi : i < m) (hj : j < m) (hx : d[i]! = x) (hy : d[j]! = y) (ho : W'.ownsRow base 3 1 (.slice (some ⟨g, 0, none⟩) m cap) m (((d.toList.map natI).set i (.int .i64 (y : Nat))).set j (.int .i64 (x : Nat)))) (hk : Kp (One g) W W') : Srt base g m cap n w (swp d i j) W' := by
  have hs := h.sz
  refine ⟨by rw [← swp_row d hx hy]; exact ho, fun k hk' => ?_, h.k.tr hk⟩
  rw [swp_get d (by omega) (by omega)]
  split
  · exact h.lt _ hi
  · split
    · exact h.lt _ hj
    · exact h.lt _ hk'
end
/-- What is asked of the order. -/
def CmpB (P : Pt) (A : Option Addr) (n ca : Nat) (l : List Ct) (g : Nat) (w : World) : Prop := ∀ W, Kp (One g) w W → ∀ x y : Nat, x < n → y < n → Calls Try.prog 37 #[.agg #[.int .i64 P.w, .int .i64 P.h, .int .i64 P.k, .slice A n ca], .int .i64 (x : Nat), .int .i64 (y : Nat)] W fun e w' => e = .returned (.int .i64 (befF l x y)) ∧ ∃ q os, w' = grow (W.drewN q) os
theorem cmpB_of (P : Pt) (A : Option Addr) (n ca : Nat) (l : List Ct) (g : Nat) (w : World) (hx : RdC w A n l) (hA : ∀ b o, A = some ⟨b, o, none⟩ → b ≠ g) : CmpB P A n ca l g w := fun W k x y h1 h2 => by
  have hl := hx.1
  obtain ⟨cx, hcx⟩ : ∃ c, l[x]? = some c := ⟨_, List.getElem?_eq_getElem (by omega)⟩
  obtain ⟨cy, hcy⟩ : ∃ c, l[y]? = some c := ⟨_, List.getElem?_eq_getElem (by omega)⟩
  have := before_any P A n ca l x y cx cy W (hx.kp k fun b o e _ s => hA b o e s) hcx hcy
  rw [← befF_at hcx hcy] at this
  exact this
end Go.Proofs.Ytamjhpdgclbfgaa
