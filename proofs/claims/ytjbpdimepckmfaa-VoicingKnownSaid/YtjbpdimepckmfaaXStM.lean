/- Chapter 27: the works on pipes that count: the iterator. · Chapter 27: what has been done to pipes: how it lies in memory. -/
import Derived.RangeFuncNested
import Derived.RangeFuncBound
import Derived.RangeFuncLeaves
import Derived.RangeFuncCalls
import Derived.Shelf.AbstractIn
import Derived.RangeFuncSeq
import Derived.WalkKit
import Derived.OwnWalkIn
import Derived.TacticsInMore
import Derived.RegionIn
import Derived.LoopNIn
import Derived.LoopIn
import Derived.Sort.LoopGhostIn
import Derived.Test.YtjbpdimepckmfaaXUndM
import Derived.Test.YtjbpdimepckmfaaXMrgP
import Derived.Test.YtjbpdimepckmfaaXSmlM
import Derived.Test.YtjbpdimepckmfaaXLibHvM
namespace Go.Proofs.Ytjbpdimepckmfaa
open Go.RowKit Go.Kq

abbrev CW := { x : Nat × Wk // okW x.2 = true ∧ x.2.kd ≠ 4 }
def encC (x : CW) : Array Value := #[.int .i64 (x.1.1 : Int), x.1.2.val]
/-- Does a work count? -/
def isC (l : List Wk) (j : Nat) (v : Wk) : Bool := !(undL l).getD j false && v.kd != 4
def cntU (l : List Wk) (i : Nat) : List (Nat × Wk) := (List.range i).filterMap fun j => match l[j]? with | some v => if isC l j v then some (j, v) else none | none => none
def cntL (l : List Wk) : List (Nat × Wk) := cntU l l.length
theorem cntU_succ {l : List Wk} {i : Nat} {v : Wk} (hv : l[i]? = some v) : cntU l (i + 1) = cntU l i ++ if isC l i v then [(i, v)] else [] := by
  unfold cntU
  rw [List.range_succ, List.filterMap_append]
  congr 1
  simp only [List.filterMap_cons, List.filterMap_nil, hv]
  split <;> simp_all
theorem cntU_len (l : List Wk) (i : Nat) : (cntU l i).length ≤ i := by
  unfold cntU
  exact Nat.le_trans (List.length_filterMap_le _ _) (by simp)

/-- What a round keeps: what lay below n₀, and rows of bools and boxes of a record. -/
def KpB (n₀ : Nat) (W W' : World) : Prop := Below n₀ W W' ∧ ∀ (k : Nat) (cs : Array Value) (e : TypeId) (m : Nat × Nat), W.heap[k]? = some (.cells cs e m) → (e = 4 ∨ e = 22) → W'.heap[k]? = some (.cells cs e m)
theorem KpB.refl (n₀ : Nat) (W : World) : KpB n₀ W W := ⟨Below.refl _ _, fun _ _ _ _ h _ => h⟩
theorem KpB.trans {n₀ : Nat} {A B C : World} (h : KpB n₀ A B) (k : KpB n₀ B C) : KpB n₀ A C := ⟨h.1.trans k.1, fun i cs e m hi he => k.2 i cs e m (h.2 i cs e m hi he) he⟩
theorem KpB.put {n₀ : Nat} {w : World} (hn : n₀ ≤ w.heap.size) (W : World) (l : Nat) (o o' : Obj) (hl : w.heap.size ≤ l) (h : W.heap[l]? = some o) (h1 : o.isCells = false) (h2 : o.isWalk = false) : KpB n₀ W (W.putObj l o') :=
  ⟨belowK_b hn W l o o' hl h h1 h2, fun k cs e m hk _ => by
    have hne : l ≠ k := fun e => by
      subst e
      rw [h] at hk
      cases hk
      cases h1
    have := (grownBy_putObj' W l o').block k (Array.getElem?_eq_some_iff.1 hk).1 (fun e => hne (by cases e; rfl))
    rw [this]
    exact hk⟩
theorem KpB.kp {n₀ : Nat} {W W' : World} (h : Kp No W W') (hn : n₀ ≤ W.heap.size) : KpB n₀ W W' :=
  ⟨h.toBelowB hn fun _ _ => id, fun _ _ _ _ hk _ => h.heap hk id⟩

theorem own_block {w w' : World} {base n : Nat} {e : TypeId} {size : Nat} {v : Value} {xs : List Value} (h : w.ownsRow base e size v n xs) (hb : ∀ g, v.ownBlock = some g → w'.heap[g]? = w.heap[g]?) : w'.ownsRow base e size v n xs := by
  rcases h with ⟨hl, h0 | ⟨g, cap, cur, hv, hb0, hh, rest⟩⟩
  · exact ⟨hl, .inl h0⟩
  · exact ⟨hl, .inr ⟨g, cap, cur, hv, hb0, (hb g (by rw [hv]; rfl)).trans hh, rest⟩⟩
theorem KpB.own {n₀ : Nat} {W W' : World} (h : KpB n₀ W W') {base n : Nat} {size : Nat} {v : Value} {xs : List Value} (ho : W.ownsRow base 4 size v n xs) : W'.ownsRow base 4 size v n xs :=
  own_block ho fun g hg => by
    rcases ho with ⟨_, ⟨h0, _⟩ | ⟨g', cap, cur, hv, _, hh, _⟩⟩
    · rw [h0] at hg
      cases hg
    · rw [hv] at hg
      cases hg
      rw [hh]
      exact h.2 _ _ _ _ hh (.inl rfl)
theorem abid_kp {β : Type} {B : Nat} {J : β → World → Prop} (h : AbidesFrom B J) {s : β} {W W' : World} (hs : J s W) (k : Kp No W W') : J s W' := h s W W' none hs (k.toGrownNo _) (fun r e => (by cases e))
set_option maxRecDepth 100000 in
set_option maxHeartbeats 4000000 in
theorem count1_in (n : Nat) (hn : 1 ≤ n) (lp Bx : Nat) (w0 : World) (A : Option Addr) (nn ca : Nat) (l : List Wk) (hR : Rec l) (hx : RdW w0 A nn l) (J Jx : List CW → World → Prop)
    (hY : ∀ pre x W, J pre W → pre.length < l.length → YieldAt Fence.wide (n - 1) Try.prog lp (encC x) W fun e W' => (e = .returned (.bool true) ∧ J (pre ++ [x]) W' ∧ KpB w0.heap.size W W') ∨ (e = .returned (.bool false) ∧ Jx (pre ++ [x]) W'))
    (W : World) (hJ : AbidesFrom W.heap.size J) (hb0 : Below w0.heap.size w0 W) (hm : W.heap[Bx]? = some (.cells #[.slice A nn ca] 22 (0, 0))) (h0 : J [] W) :
    CallsIn Fence.wide n Try.prog 87 #[.func (.yield lp) #[] #[], .pointer (some ⟨Bx, 0, none⟩)] W fun e W' => (∃ v, e = .returned v) ∧ ((∃ ss : List CW, ss.map Subtype.val = cntL l ∧ J ss W') ∨ ∃ pre : List CW, True ∧ Jx pre W') := by
  have hl := hx.1
  have hlen := hR.len
  have hxW := hx.no (Kp.below (S := No) hb0)
  have hsz0 := hb0.size
  have hc0 : W.cell? ⟨Bx, 0, none⟩ = some (.slice A nn ca) := by rw [cell_of_row _ _ _ _ _ _ hm]; rfl
  have HM := Lib.hid hm
  have HRC := Lib.hid hR
  have hun := undone_any A nn ca l W hxW (by omega) hR.names
  clear hm hR
  refine callsIn_of_wp Try.func87 rfl trivial ?_ rfl
  simp only [Try.ntmps87, List.size_toArray, List.length_cons, List.length_nil, Nat.reduceAdd, Nat.reduceSub, Array.replicate_succ, Array.replicate_zero, List.push_toArray, List.append_toArray, List.nil_append, List.cons_append]
  gi_wp2_with (first
    | (refine ⟨trivial, ?_⟩; gi_at_call 58; refine (callsIn_wide.2 hun).mono ?_; rintro e W1 ⟨G, rfl, hG, hk1⟩; have hc1 : W1.cell? ⟨Bx, 0, none⟩ = some (.slice A nn ca) := hk1.cell hc0 id; clear hc0)
    | gi_in)
  have hB1 : KpB w0.heap.size w0 W1 := ⟨hb0.trans (hk1.toBelowB hsz0 fun _ _ => id), fun k cs e m hk _ => hk1.heap ((hb0.block k (Array.getElem?_eq_some_iff.1 hk).1).trans hk) id⟩
  have hJ1 := abid_kp hJ h0 hk1
  have HG := Lib.hid hG
  have HB1 := Lib.hid hB1
  have hszW := hk1.size
  clear hG hB1 hun hxW hk1 hc1
  gi_loopw [10] (fun vi wr => ∃ (i : Nat) (pre : List CW), i ≤ nn ∧ vi = .int .i64 i ∧ pre.map Subtype.val = cntU l i ∧ J pre wr ∧ KpB w0.heap.size W1 wr) (fun vi _ => nn - (intOf vi).toNat)
  case atStart => exact ⟨0, [], by omega, rfl, rfl, hJ1, KpB.refl _ _⟩
  case round =>
    obtain ⟨i, pre, hi, rfl, hpre, hJs, hkb⟩ := hrel
    have HP := Lib.hid hpre
    have HKB := Lib.hid hkb
    have HJ := Lib.hid hJs
    have hszr : w0.heap.size ≤ wr.heap.size := by have := hkb.1.size; omega
    have hBl : Below w0.heap.size w0 wr := HB1.out.1.trans hkb.1
    have HX := Lib.hid (hx.no (Kp.below (S := No) hBl))
    clear hpre hJs hkb hBl
    by_cases hlt : i < nn
    · obtain ⟨v, hv⟩ : ∃ v, l[i]? = some v := ⟨_, List.getElem?_eq_getElem (by omega)⟩
      obtain ⟨b, o, rfl, hb, hat⟩ := RdW.at_ HX.out hv
      obtain ⟨c0, c1, c2, c3, c4, c5, c6, c7, c8, c9, c10⟩ := hat
      obtain ⟨q, hq⟩ : ∃ q, (undL l)[i]? = some q := ⟨_, List.getElem?_eq_getElem (by unfold undL; rw [undAt_len]; omega)⟩
      have hg0 : wr.cell? ⟨G, i, none⟩ = some (.bool q) := own_cell (HKB.out.own HG.out) (by rw [List.getElem?_map, hq]; rfl)
      have HS := Lib.hid (cntU_succ hv)
      have HQ := Lib.hid (show isC l i v = (!q && v.kd != 4) by unfold isC; rw [List.getD_eq_getElem?_getD, hq]; rfl)
      have HOK := Lib.hid (HRC.out.ok v (List.mem_of_getElem? hv))
      have hka : Kp No wr (wr.alloc (.cells v.cells.toArray 41)) := Kp.alloc _ _ _
      have HJA := Lib.hid (abid_kp hJ HJ.out hka)
      have hgA : (wr.alloc (.cells v.cells.toArray 41)).cell? ⟨G, i, none⟩ = some (.bool q) := hka.cell hg0 id
      have hpl : pre.length < l.length := by have h1 := congrArg List.length HP.out; rw [List.length_map] at h1; have := cntU_len l i; omega
      have HKA := Lib.hid (HKB.out.trans (KpB.kp hka hszr))
      clear hv hq hg0 hka
      simp only [Wk.cells] at hgA
      cases q with
      | true =>
        have HS2 := Lib.hid (show cntU l (i + 1) = cntU l i by rw [HS.out, HQ.out]; simp)
        gi_wp2
        refine ⟨fun _ h => (by cases h), ?_⟩
        gi_wp2
        go_roundw
        case rel => exact ⟨i + 1, pre, by omega, by go_num, by rw [HS2.out]; exact HP.out, HJA.out, HKA.out⟩
        case measure => simp [intOf]; omega
      | false =>
        by_cases h4 : v.kd = 4
        · have h4' : (v.kd != 4) = false := by rw [h4]; rfl
          have HS2 := Lib.hid (show cntU l (i + 1) = cntU l i by rw [HS.out, HQ.out, h4']; simp)
          clear h4
          gi_wp2
          refine ⟨fun _ h => (by cases h), ?_⟩
          gi_wp2
          go_roundw
          case rel => exact ⟨i + 1, pre, by omega, by go_num, by rw [HS2.out]; exact HP.out, HJA.out, HKA.out⟩
          case measure => simp [intOf]; omega
        · have h4' : (v.kd != 4) = true := by simp [h4]
          have HS2 := Lib.hid (show cntU l (i + 1) = cntU l i ++ [(i, v)] by rw [HS.out, HQ.out, h4']; rfl)
          obtain ⟨x, hxv⟩ : ∃ x : CW, x.1 = (i, v) := ⟨⟨(i, v), HOK.out, h4⟩, rfl⟩
          obtain ⟨fn, tmps, assign, body, hy, hR⟩ := hY pre x _ HJA.out hpl
          have HXV := Lib.hid hxv
          simp only [encC, hxv, Wk.val, Wk.cells] at hy
          clear h4 hxv
          gi_wp2
          refine hR.mono ?_
          clear hy hR
          rintro e W3 (⟨rfl, hJ3, hk3⟩ | ⟨rfl, hJx3⟩)
          · have HJ3 := Lib.hid hJ3
            have HK3 := Lib.hid (HKA.out.trans hk3)
            clear hJ3 hk3
            gi_wp2
            go_roundw
            case rel => exact ⟨i + 1, pre ++ [x], by omega, by go_num, by rw [HS2.out, List.map_append, HP.out]; simp [HXV.out], HJ3.out, HK3.out⟩
            case measure => simp [intOf]; omega
          · have HJ3 := Lib.hid hJx3
            clear hJx3
            gi_wp2
            refine bodyPost_ret (results_none rfl _ _ _) rfl ?_
            exact ⟨⟨_, rfl⟩, .inr ⟨_, trivial, HJ3.out⟩⟩
    · obtain rfl : i = nn := by omega
      gi_wp2
      go_end0
      exact ⟨⟨_, rfl⟩, .inl ⟨pre, by rw [HP.out]; unfold cntL; rw [hl], HJ.out⟩⟩
end Go.Proofs.Ytjbpdimepckmfaa

namespace Go.Proofs.Ytjbpdimepckmfaa
open Go.RowKit Go.Kq

def eo (o : Option Nat) : Value := match o with | none => .pointer none | some g => .pointer (some ⟨g, 0, none⟩)
theorem ep_inj {a b : Pp} (h : ep a = ep b) : a = b := by
  obtain ⟨a1, a2⟩ := a
  obtain ⟨b1, b2⟩ := b
  simpa [ep] using h
theorem pipe_eq (w : World) (x y : Pp) : (Op.equal 39 (ep x) (ep y)).run Try.prog w = .ok (decide (x = y)) w := by
  obtain ⟨x1, x2⟩ := x
  obtain ⟨y1, y2⟩ := y
  have h := pipe_equal w x1 x2 y1 y2
  simp only [Op.equal, Op.maxDepth, ep]
  rw [h]
  by_cases h1 : x1 = y1 <;> by_cases h2 : x2 = y2 <;> simp [h1, h2]
theorem pipe_check (w : World) (em : Bool) (k : Pp) : (Instr.checkKey em 10000 39 (ep k)).run Try.prog w = .ok () w := by
  obtain ⟨x1, x2⟩ := k
  have a3 := Try.isAgg3
  have z3 := Try.sizeOf3
  have c := fun x => check_int 9998 w em x
  rw [show (10000 : Nat) = 9998 + 1 + 1 from rfl]
  unfold Instr.checkKey
  simp only [ep, Sem.run_bind, run_underlying Try.underlying39, Result.andThen_ok]
  go_simp
theorem pipeOk : KeyOk Try.prog 39 ep := aggKey_ok Try.underlying39 ep_inj pipe_check pipe_eq (fun k => by simp [ep, Instr.sameBits])
theorem zeroPtr (w : World) : (zeroValue 81).run Try.prog w = .ok (eo none) w := by kernel_rfl

/-- A block that holds what has been done to a pipe. -/
def BoxP (W : World) (g : Nat) (v : Pv) : Prop := W.heap[g]? = some (.cells v.cells.toArray 64 (0, 0))
/-- The map of what has been done, block B; the pipes' blocks lie at n₀ or beyond. -/
def StAt (W : World) (B n₀ : Nat) (ws : List Wk) : Prop := ∃ E : List (Pp × Option Nat), MapAt W B ep eo E ∧ (∀ p o, get1 E p = some o → ∃ g v, o = some g ∧ stOf ws p = some v ∧ n₀ ≤ g ∧ BoxP W g v) ∧ ∀ p, get1 E p = none → stOf ws p = none
/-- The same, the block of one pipe at hand. -/
def StX (W : World) (B n₀ : Nat) (ws : List Wk) (p : Pp) (g : Nat) (v : Pv) : Prop := ∃ E : List (Pp × Option Nat), MapAt W B ep eo E ∧ get1 E p = some (some g) ∧ v = (stOf ws p).getD (pv0 p) ∧ n₀ ≤ g ∧ BoxP W g v ∧
  (∀ q, q ≠ p → ∀ o, get1 E q = some o → ∃ g' u, o = some g' ∧ stOf ws q = some u ∧ n₀ ≤ g' ∧ g' ≠ g ∧ BoxP W g' u) ∧ ∀ q, q ≠ p → get1 E q = none → stOf ws q = none
theorem BoxP.at_ {W : World} {g : Nat} {v : Pv} (h : BoxP W g v) {j : Nat} {u : Value} (hj : v.cells[j]? = some u) : W.cell? ⟨g, j, none⟩ = some u ∧ W.frozen? ⟨g, j, none⟩ = false := by
  unfold BoxP at h
  refine ⟨?_, by simp [World.frozen?, h]⟩
  rw [cell_of_row _ _ _ _ _ _ h]
  simpa using hj
theorem BoxP.lt {W : World} {g : Nat} {v : Pv} (h : BoxP W g v) : g < W.heap.size := (Array.getElem?_eq_some_iff.1 h).1
theorem BoxP.uniq {W : World} {g : Nat} {u v : Pv} (h : BoxP W g u) (h2 : BoxP W g v) : u = v := by
  unfold BoxP at h h2
  rw [h] at h2
  injection h2 with h2
  injection h2 with h2
  refine Pv.cells_inj ?_
  simpa using congrArg Array.toList h2
theorem stAt_made (w : World) (n₀ : Nat) : StAt (w.alloc (.map #[] 0)) w.heap.size n₀ [] := ⟨[], MapAt.made w ep eo, fun p o h => (by cases h), fun p _ => rfl⟩
/-- It lies on where the map and blocks of cells do. -/
theorem StAt.on {W W' : World} {B n₀ : Nat} {ws : List Wk} (h : StAt W B n₀ ws) (hb : W'.heap[B]? = W.heap[B]?) (hc : ∀ (g : Nat) (cs : Array Value), W.heap[g]? = some (.cells cs 64 (0, 0)) → W'.heap[g]? = some (.cells cs 64 (0, 0))) : StAt W' B n₀ ws := by
  obtain ⟨E, hm, h1, h2⟩ := h
  refine ⟨E, hm.of_block hb, fun p o ho => ?_, h2⟩
  obtain ⟨g, v, h3, h4, h5, h6⟩ := h1 p o ho
  exact ⟨g, v, h3, h4, h5, hc _ _ h6⟩
theorem StAt.lt {W : World} {B n₀ : Nat} {ws : List Wk} (h : StAt W B n₀ ws) : B < W.heap.size := by
  obtain ⟨E, hm, _⟩ := h
  exact hm.lt
theorem StAt.kp {S : Nat → Prop} {W W' : World} {B n₀ : Nat} {ws : List Wk} (h : StAt W B n₀ ws) (k : Kp S W W') (hS : ∀ b, S b → b < n₀ ∧ b ≠ B) : StAt W' B n₀ ws := by
  obtain ⟨E, hm, h1, h2⟩ := h
  refine ⟨E, hm.of_block (k.block B hm.lt fun h => (hS B h).2 rfl), fun p o ho => ?_, h2⟩
  obtain ⟨g, v, h3, h4, h5, h6⟩ := h1 p o ho
  exact ⟨g, v, h3, h4, h5, k.heap h6 fun h => by have := (hS g h).1; omega⟩
theorem StAt.no {W W' : World} {B n₀ : Nat} {ws : List Wk} (h : StAt W B n₀ ws) (k : Kp No W W') : StAt W' B n₀ ws := h.kp k fun _ h => h.elim
/-- A pipe's block found. -/
theorem StX.found {W : World} {B n₀ : Nat} {ws : List Wk} {E : List (Pp × Option Nat)} {p : Pp} {o : Option Nat} (hm : MapAt W B ep eo E) (h1 : ∀ p o, get1 E p = some o → ∃ g v, o = some g ∧ stOf ws p = some v ∧ n₀ ≤ g ∧ BoxP W g v) (h2 : ∀ p, get1 E p = none → stOf ws p = none) (hg : get1 E p = some o) :
    ∃ g v, o = some g ∧ StX W B n₀ ws p g v := by
  obtain ⟨g, v, rfl, h3, h4, h5⟩ := h1 p o hg
  refine ⟨g, v, rfl, E, hm, hg, by rw [h3]; rfl, h4, h5, fun q hq o ho => ?_, fun q _ => h2 q⟩
  obtain ⟨g', u, rfl, h6, h7, h8⟩ := h1 q o ho
  refine ⟨g', u, rfl, h6, h7, fun e => hq ?_, h8⟩
  subst e
  have := h8.uniq h5
  subst this
  rw [← stOf_p h6, stOf_p h3]
/-- A pipe's block made and put into the map. -/
theorem StX.fresh {W W1 W2 : World} {B n₀ : Nat} {ws : List Wk} {E : List (Pp × Option Nat)} {p : Pp} (hn : n₀ ≤ W.heap.size) (hm : MapAt W B ep eo E) (h1 : ∀ p o, get1 E p = some o → ∃ g v, o = some g ∧ stOf ws p = some v ∧ n₀ ≤ g ∧ BoxP W g v) (h2 : ∀ p, get1 E p = none → stOf ws p = none) (hg : get1 E p = none)
    (e1 : W1 = W.alloc (.cells (pv0 p).cells.toArray 64)) (hm2 : MapAt W2 B ep eo (ins p (some W.heap.size) E)) (hg2 : W1.grownBy W2 (some B)) : StX W2 B n₀ ws p W.heap.size (pv0 p) := by
  have hk1 : Kp No W W1 := by rw [e1]; exact Kp.alloc _ _ _
  have hk2 : Kp (Kq.One B) W1 W2 := Kp.grown hg2 fun k hk _ => by injection hk with hk; exact hk.symm
  have hB := hm.lt
  have key : ∀ (g : Nat) (u : Pv), BoxP W g u → BoxP W2 g u := fun g u h => hk2.heap (hk1.heap h id) fun e => by
    have e : g = B := e
    subst e
    obtain ⟨es, c, hmm⟩ := hm
    have h3 := hmm.at_
    unfold BoxP at h
    rw [h] at h3
    cases h3
  have hnew : BoxP W2 W.heap.size (pv0 p) := hk2.heap (by rw [e1]; exact heap_alloc_new _ _) fun e => by have e : W.heap.size = B := e; omega
  refine ⟨_, hm2, by rw [get1_ins, if_pos rfl], by rw [h2 p hg]; rfl, hn, hnew, fun q hq o ho => ?_, fun q hq ho => ?_⟩
  · rw [get1_ins, if_neg (fun e => hq e.symm)] at ho
    obtain ⟨g', u, rfl, h6, h7, h8⟩ := h1 q o ho
    exact ⟨g', u, rfl, h6, h7, fun e => by have := h8.lt; omega, key _ _ h8⟩
  · rw [get1_ins, if_neg (fun e => hq e.symm)] at ho
    exact h2 q ho
theorem StX.box {W : World} {B n₀ : Nat} {ws : List Wk} {p : Pp} {g : Nat} {v : Pv} (h : StX W B n₀ ws p g v) : BoxP W g v := by
  obtain ⟨_, _, _, _, _, h, _⟩ := h
  exact h
theorem StX.ge {W : World} {B n₀ : Nat} {ws : List Wk} {p : Pp} {g : Nat} {v : Pv} (h : StX W B n₀ ws p g v) : n₀ ≤ g := by
  obtain ⟨_, _, _, _, h, _⟩ := h
  exact h
/-- A work done to the pipe at hand. -/
theorem StX.fin {W W' : World} {B n₀ : Nat} {ws : List Wk} {x : Wk} {g : Nat} {v : Pv} (h : StX W B n₀ ws x.pp g v) (k : Kp (Kq.One g) W W') (hb : BoxP W' g (stepP v x)) : StAt W' B n₀ (ws ++ [x]) := by
  obtain ⟨E, hm, h1, h2, h3, h4, h5, h6⟩ := h
  have hgB : B ≠ g := fun e => by
    subst e
    obtain ⟨es, c, hmm⟩ := hm
    have h3 := hmm.at_
    unfold BoxP at h4
    rw [h4] at h3
    cases h3
  refine ⟨E, hm.of_block (k.block B hm.lt hgB), fun q o ho => ?_, fun q hq => ?_⟩
  · rw [stOf_snoc]
    by_cases e : x.pp = q
    · subst e
      rw [h1] at ho
      cases ho
      exact ⟨g, _, rfl, by rw [if_pos rfl, ← h2], h3, hb⟩
    · obtain ⟨g', u, rfl, h7, h8, h9, h10⟩ := h5 q (fun e' => e e'.symm) o ho
      exact ⟨g', u, rfl, by rw [if_neg e]; exact h7, h8, k.heap h10 h9⟩
  · rw [stOf_snoc]
    by_cases e : x.pp = q
    · subst e
      rw [h1] at hq
      cases hq
    · rw [if_neg e]
      exact h6 q (fun e' => e e'.symm) hq
end Go.Proofs.Ytjbpdimepckmfaa
