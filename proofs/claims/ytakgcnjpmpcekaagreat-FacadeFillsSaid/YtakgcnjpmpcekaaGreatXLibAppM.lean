/- Chapter 24: pipes in a field, and their feet: plain. · What a call leaves as it was: 'Kp S w w'': of what was there only the blocks S may have turned. No program in sight. · An append onto a row of the call's own of whatever slice, nil too. No program in sight. -/
import Derived.WalkKit
import Derived.Lib.Hide
import Derived.BigQuiet
import Derived.Deep.QuietTactic
import Derived.Maps.AppendAt
import Derived.OwnWalk
import Derived.Laws.OwnMore
import Derived.Test.YtakgcnjpmpcekaaGreatXFcT
namespace Go.Proofs.YtakgcnjpmpcekaaGreat

def filE (w : Int) (r : List Int) : Int := if 60 < r.length then 3 else if oB w 1 10000000 || r.any (fun x => oB x 1 1000000) then 2 else if w - 2 * r.sum < 0 then 4 else 0
/-- Where pipes are, from a place on. -/
def posN (g : Int) : Int → List Int → List Int
  | _, [] => []
  | x, a :: r => (x + a) :: posN g (x + 2 * a + g) r
def filX (w : Int) (r : List Int) : Int := (w - 2 * r.sum - gapN w r * max ((r.length : Int) - 1) 0) / 2
def filL (w : Int) (r : List Int) : List Int := if filE w r = 0 then posN (gapN w r) (filX w r) r else []
def filG (w : Int) (r : List Int) : Int := if filE w r = 0 then gapN w r else 0
def fetE (w : Int) (at_ : List Int) (b z : Int) : Int := if 60 < at_.length then 3 else if oB w 1 10000000 || oB b 0 3000000 || oB z (-3000000) 3000000 || at_.any (fun x => oB x 0 w) then 2 else 0
def fetX (w b z x : Int) : Int := b + x * (w - x) * (4 * z) / (w * w)
def fetL (w : Int) (at_ : List Int) (b z : Int) : List Int := if fetE w at_ b z = 0 then at_.map (fetX w b z) else []
theorem pos_len (g : Int) : ∀ (x : Int) (r : List Int), (posN g x r).length = r.length
  | _, [] => rfl
  | x, a :: r => by rw [posN, List.length_cons, pos_len g _ r, List.length_cons]
theorem pos_at (g : Int) : ∀ (x : Int) (r : List Int) (i : Nat), i < r.length → (posN g x r).getD i 0 = x + 2 * (r.take i).sum + g * i + r.getD i 0
  | _, [], i, h => by simp at h
  | x, a :: r, 0, _ => by simp [posN]
  | x, a :: r, i + 1, h => by
    have ih := pos_at g (x + 2 * a + g) r i (by simpa using h)
    rw [posN, List.getD_cons_succ, ih, List.take_succ_cons, List.sum_cons, List.getD_cons_succ]
    rw [show g * ((i + 1 : Nat) : Int) = g * i + g by rw [Int.natCast_succ, Int.mul_add, Int.mul_one]]
    omega
theorem take_sum_le : ∀ (r : List Int) (i : Nat), (∀ x ∈ r, 1 ≤ x) → 0 ≤ (r.take i).sum ∧ (r.take i).sum ≤ r.sum
  | [], i, _ => by simp
  | a :: r, 0, h => by
    have := take_sum_le r 0 fun x hx => h x (by simp [hx])
    have := h a (by simp)
    simp at *
    omega
  | a :: r, i + 1, h => by
    have := take_sum_le r i fun x hx => h x (by simp [hx])
    have := h a (by simp)
    simp only [List.take_succ_cons, List.sum_cons]
    omega
theorem take_sum_succ (r : List Int) (i : Nat) (h : i < r.length) : (r.take (i + 1)).sum = (r.take i).sum + r.getD i 0 := by
  rw [List.take_succ_eq_append_getElem h, List.sum_append, List.getD_eq_getElem?_getD, List.getElem?_eq_getElem h]
  simp
/-- What is known of a field that was filled. -/
theorem fil_ok {w : Int} {r : List Int} (h : filE w r = 0) : r.length ≤ 60 ∧ 1 ≤ w ∧ w ≤ 10000000 ∧ (∀ x ∈ r, 1 ≤ x ∧ x ≤ 1000000) ∧ 0 ≤ w - 2 * r.sum := by
  unfold filE at h
  split at h
  · cases h
  · split at h
    · cases h
    · rename_i h1 h2
      split at h
      · cases h
      · simp only [Bool.or_eq_true, not_or, oB, decide_eq_true_eq, List.any_eq_true, not_exists, not_and] at h2
        refine ⟨by omega, by omega, by omega, fun x hx => ?_, by omega⟩
        have := h2.2 x hx
        omega
theorem gap_le {w : Int} {r : List Int} (h : 0 ≤ w - 2 * r.sum) : 0 ≤ gapN w r ∧ gapN w r * ((r.length : Int) + 1) ≤ w - 2 * r.sum := by
  unfold gapN
  rw [if_neg (by omega)]
  exact ⟨Int.ediv_nonneg h (by omega), Int.ediv_mul_le _ (by omega)⟩
theorem fil_ends {w : Int} {r : List Int} (h : 0 ≤ w - 2 * r.sum) (hl : 0 < r.length) : gapN w r ≤ filX w r ∧ filX w r ≤ w - 2 * r.sum - gapN w r * ((r.length : Int) - 1) - filX w r ∧ (w - 2 * r.sum - gapN w r * ((r.length : Int) - 1) - filX w r) - filX w r ≤ 1 := by
  have hg := gap_le h
  have e : gapN w r * ((r.length : Int) + 1) = gapN w r * ((r.length : Int) - 1) + 2 * gapN w r := by
    rw [show (r.length : Int) + 1 = ((r.length : Int) - 1) + 2 by omega, Int.mul_add]
    omega
  unfold filX
  rw [show max ((r.length : Int) - 1) 0 = (r.length : Int) - 1 by omega]
  rw [e] at hg
  generalize gapN w r * ((r.length : Int) - 1) = q at *
  generalize gapN w r = g at *
  omega
theorem fil_near {r : List Int} (i : Nat) (h1 : 0 < i) (h2 : i < r.length) (g x : Int) : (posN g x r).getD i 0 - r.getD i 0 - (posN g x r).getD (i - 1) 0 - r.getD (i - 1) 0 = g := by
  rw [pos_at g x r i h2, pos_at g x r (i - 1) (by omega)]
  have e := take_sum_succ r (i - 1) (by omega)
  rw [show i - 1 + 1 = i by omega] at e
  have e2 : g * ((i : Nat) : Int) = g * ((i - 1 : Nat) : Int) + g := by
    have : ((i : Nat) : Int) = ((i - 1 : Nat) : Int) + 1 := by omega
    rw [this, Int.mul_add, Int.mul_one]
  rw [e, e2]
  generalize g * ((i - 1 : Nat) : Int) = q
  omega
theorem fil_in {w : Int} {r : List Int} (h : filE w r = 0) (i : Nat) (hi : i < r.length) : 0 ≤ (posN (gapN w r) (filX w r) r).getD i 0 ∧ (posN (gapN w r) (filX w r) r).getD i 0 ≤ w := by
  obtain ⟨_, _, _, hr, hs⟩ := fil_ok h
  have he := fil_ends hs (by omega)
  have hg := gap_le hs
  rw [pos_at _ _ r i hi]
  have hm : r.getD i 0 ∈ r := by
    rw [List.getD_eq_getElem?_getD, List.getElem?_eq_getElem hi]
    exact List.getElem_mem hi
  have ha := hr _ hm
  have ht := take_sum_le r i fun x hx => (hr x hx).1
  have ht2 := take_sum_le r (i + 1) fun x hx => (hr x hx).1
  rw [take_sum_succ r i hi] at ht2
  have hgi : 0 ≤ gapN w r * (i : Int) := Int.mul_nonneg hg.1 (by omega)
  have hgj : gapN w r * (i : Int) ≤ gapN w r * ((r.length : Int) - 1) := Int.mul_le_mul_of_nonneg_left (by omega) hg.1
  generalize gapN w r * (i : Int) = p at *
  generalize gapN w r * ((r.length : Int) - 1) = q at *
  omega
theorem gap_wide {w w' : Int} {r : List Int} (h : 0 ≤ w - 2 * r.sum) (hw : w ≤ w') : gapN w r ≤ gapN w' r := by
  unfold gapN
  rw [if_neg (by omega), if_neg (by omega)]
  exact Int.ediv_le_ediv (by omega) (by omega)
theorem fet_mirror (w b z x : Int) : fetX w b z (w - x) = fetX w b z x := by
  unfold fetX
  rw [show w - (w - x) = x by omega, Int.mul_comm (w - x) x]
theorem fet_zero (w b x : Int) : fetX w b 0 x = b := by
  unfold fetX
  simp
end Go.Proofs.YtakgcnjpmpcekaaGreat

namespace Go.Kq
open Go.RowKit

/-- A walk stops where its goal stands behind this name. -/
def Stop (p : Prop) : Prop := p
theorem stop_in {p : Prop} (h : Stop p) : p := h
theorem stop_out {p : Prop} (h : p) : Stop p := h

structure Kp (S : Nat → Prop) (w w' : World) : Prop where
  os : w'.os = w.os
  tape : w'.tape = w.tape
  output : w'.output = w.output
  size : w.heap.size ≤ w'.heap.size
  block : ∀ k, k < w.heap.size → ¬ S k → w'.heap[k]? = w.heap[k]?

def No : Nat → Prop := fun _ => False
def One (b : Nat) : Nat → Prop := fun k => k = b

section
variable {S T : Nat → Prop} {w w' w'' : World}
theorem Kp.refl (S : Nat → Prop) (w : World) : Kp S w w := ⟨rfl, rfl, rfl, Nat.le_refl _, fun _ _ _ => rfl⟩
theorem Kp.trans (h : Kp S w w') (h' : Kp T w' w'') (hT : ∀ k, k < w.heap.size → T k → S k) : Kp S w w'' :=
  ⟨h'.os.trans h.os, h'.tape.trans h.tape, h'.output.trans h.output, Nat.le_trans h.size h'.size, fun k hk hS => (h'.block k (Nat.lt_of_lt_of_le hk h.size) (fun t => hS (hT k hk t))).trans (h.block k hk hS)⟩
theorem Kp.tr (h : Kp S w w') (h' : Kp S w' w'') : Kp S w w'' := h.trans h' fun _ _ t => t
theorem Kp.no (h : Kp S w w') (h' : Kp No w' w'') : Kp S w w'' := h.trans h' fun _ _ t => t.elim
theorem Kp.mono (h : Kp S w w') (hT : ∀ k, k < w.heap.size → S k → T k) : Kp T w w' := ⟨h.os, h.tape, h.output, h.size, fun k hk hS => h.block k hk fun s => hS (hT k hk s)⟩
theorem Kp.of_no (h : Kp No w w') : Kp S w w' := h.mono fun _ _ t => t.elim
theorem Kp.grown {row : Option Nat} (h : w.grownBy w' row) (hr : ∀ k, row = some k → k < w.heap.size → S k) : Kp S w w' :=
  ⟨h.os, h.tape, h.output, h.size, fun k hk hS => h.block k hk fun e => hS (hr k e.symm hk)⟩
theorem Kp.grown_none (h : w.grownBy w' none) : Kp S w w' := Kp.grown h (by simp)
theorem Kp.below (h : Below w.heap.size w w') : Kp S w w' := ⟨h.os, h.tape, h.output, h.size, fun k hk _ => h.block k hk⟩
theorem Kp.toBelow (h : Kp No w w') : Below w.heap.size w w' := ⟨h.os, h.tape, h.output, h.size, fun k hk => h.block k hk id⟩
theorem Kp.toBelowB {B : Nat} (h : Kp S w w') (hB : B ≤ w.heap.size) (hS : ∀ k, k < B → ¬ S k) : Below B w w' := ⟨h.os, h.tape, h.output, h.size, fun k hk => h.block k (by omega) (hS k hk)⟩
theorem Kp.toGrown {b : Nat} (h : Kp (One b) w w') : w.grownBy w' (some b) := ⟨h.os, h.tape, h.output, h.size, fun k hk hne => h.block k hk fun e => hne (by rw [e])⟩
theorem Kp.toGrownNo (h : Kp No w w') (row : Option Nat) : w.grownBy w' row := ⟨h.os, h.tape, h.output, h.size, fun k hk _ => h.block k hk id⟩
theorem Kp.alloc (S : Nat → Prop) (w : World) (o : Obj) : Kp S w (w.alloc o) := Kp.grown_none (World.grownBy_alloc w o none)
theorem Kp.drew (S : Nat → Prop) (w : World) : Kp S w w.drew := ⟨rfl, rfl, rfl, Nat.le_refl _, fun _ _ _ => rfl⟩
theorem Kp.drewN (S : Nat → Prop) (w : World) (n : Nat) : Kp S w (w.drewN n) := ⟨rfl, rfl, rfl, Nat.le_refl _, fun _ _ _ => rfl⟩
theorem Kp.setCell (S : Nat → Prop) (w : World) (a : Addr) (v : Value) (h : a.block < w.heap.size → S a.block) : Kp S w (w.setCell a v) :=
  ⟨rfl, rfl, rfl, by simp, fun k hk hS => by
    have hne : a.block ≠ k := fun e => hS (e ▸ h (e ▸ hk))
    simp [World.setCell, Array.getElem?_modify, hne]⟩
theorem Kp.cell (h : Kp S w w') {a : Addr} {v : Value} (hc : w.cell? a = some v) (hS : ¬ S a.block) : w'.cell? a = some v :=
  (World.cell?_of_block (h.block a.block (World.block_lt_of_cell? w _ hc) hS)).trans hc
theorem Kp.frozen (h : Kp S w w') {a : Addr} (hb : a.block < w.heap.size) (hS : ¬ S a.block) : w'.frozen? a = w.frozen? a :=
  World.frozen?_of_block (h.block a.block hb hS)
theorem Kp.heap (h : Kp S w w') {b : Nat} {o : Obj} (hb : w.heap[b]? = some o) (hS : ¬ S b) : w'.heap[b]? = some o :=
  (h.block b (Array.getElem?_eq_some_iff.1 hb).1 hS).trans hb
theorem Kp.owns (h : Kp S w w') {base size n : Nat} {e : TypeId} {v : Value} {xs : List Value} (ho : w.ownsRow base e size v n xs) (hS : ∀ g, v.ownBlock = some g → ¬ S g) : w'.ownsRow base e size v n xs := by
  rcases ho with ⟨hl, h0 | ⟨g, cap, cur, hv, hb, hh, rest⟩⟩
  · exact ⟨hl, .inl h0⟩
  · exact ⟨hl, .inr ⟨g, cap, cur, hv, hb, h.heap hh (hS g (by rw [hv]; rfl)), rest⟩⟩
end

theorem ret_i64 {a b : Int} (h : a = b) : Ending.returned (.int .i64 a) = .returned (.int .i64 b) := by rw [h]
theorem ret_bool {a b : Bool} (h : a = b) : Ending.returned (.bool a) = .returned (.bool b) := by rw [h]
end Go.Kq

namespace Go.Kq
open Go.RowKit

theorem wpL_append_any {P : Program} {w : World} {ops : Array Oper} {rest : List Oper} {o : Oper} {a : Act} {Q : Exit → Act → World → Prop} (hgd : o.guard = none) (s x : Operand) (t : TypeId)
    (ho : o.op = .call { callee := .builtin .append, args := #[s, x], argTypes := #[t, t] })
    (base : Nat) (e : TypeId) (i : TypeInfo) (z : Value) (size bytes : Nat) (ht : P.underlying t = some (.slice e)) (hi : P.info? e = some i) (hz : i.zero = some z)
    (hsize : i.size = size) (hby : i.bytes = bytes) (hzs : z.cells.size = size) (hsz : 0 < size)
    (v : Value) (n : Nat) (xs : List Value) (hs : a.eval s = v) (hown : w.ownsRow base e size v n xs)
    (ao : Option Addr) (m c : Nat) (news : List Value) (hx : a.eval x = .slice ao m c) (hl : news.length = m * size) (hnone : ao = none → m = 0 ∧ c = 0) (hnews : ∀ ad, ao = some ad → ∀ j u, news[j]? = some u → w.cell? (ad.add j) = some u) (h1 : ∀ u ∈ news, u.oneCell' = true)
    (h63 : n + m ≤ maxLen) (hbytes : (n + m) * bytes ≤ 140737488355328) (hbase : base ≤ w.heap.size)
    (h : ∀ v' w', w'.ownsRow base e size v' (n + m) (xs ++ news) → w.grownBy w' v.ownBlock → (v'.ownBlock = v.ownBlock ∨ v'.ownBlock = some w.heap.size) → wpList P ops Q rest (a.put o.dst v') w') :
    wpList P ops Q (o :: rest) a w := by
  cases ao with
  | some ad => exact wpList_append_own_at (w := w) hgd s x t ho base e i z size bytes ht hi hz hsize hby hzs hsz v n xs hs hown ad m c news hx hl (hnews ad rfl) h1 h63 hbytes hbase fun v' w' h2 h3 _ h5 => h v' w' h2 h3 h5
  | none =>
    obtain ⟨rfl, rfl⟩ := hnone rfl
    refine wpList_plain hgd fun K hK => ?_
    have hrun := run_append_owned_none (P := P) (w := w) base t o.type e i size ht hi v n xs hown
    have hn : news = [] := List.length_eq_zero_iff.1 (by simpa using hl)
    unfold Oper.wp execOp
    simp only [ho, resolve, invoke, builtin, Sem.run_bind, Sem.run_pure, Result.andThen_ok, List.map_toArray, List.map_cons, List.map_nil, hs, hx, hrun]
    exact hK _ _ (h v w (by simpa [hn] using hown) (World.grownBy.refl _ _) (.inl rfl))
end Go.Kq
