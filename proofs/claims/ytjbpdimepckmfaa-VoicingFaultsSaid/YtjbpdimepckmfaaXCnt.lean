/- Chapter 27: the works on pipes that count: the iterator. -/
import Derived.RangeFuncNested
import Derived.RangeFuncBound
import Derived.RangeFuncLeaves
import Derived.RangeFuncCalls
import Derived.Shelf.AbstractIn
import Derived.RangeFuncSeq
import Derived.WalkKit
import Derived.OwnWalkIn
import Derived.TacticsInMore
import Derived.RegionIn
import Derived.LoopNIn
import Derived.LoopIn
import Derived.Sort.LoopGhostIn
import Derived.Test.YtjbpdimepckmfaaXExmM
import Derived.Test.YtjbpdimepckmfaaXMrgP
namespace Go.Proofs.Ytjbpdimepckmfaa
open Go.RowKit Go.Kq

abbrev CW := { x : Nat × Wk // okW x.2 = true ∧ x.2.kd ≠ 4 }
def encC (x : CW) : Array Value := #[.int .i64 (x.1.1 : Int), x.1.2.val]
/-- Does a work count? -/
def isC (l : List Wk) (j : Nat) (v : Wk) : Bool := !(undL l).getD j false && v.kd != 4
def cntU (l : List Wk) (i : Nat) : List (Nat × Wk) := (List.range i).filterMap fun j => match l[j]? with | some v => if isC l j v then some (j, v) else none | none => none
def cntL (l : List Wk) : List (Nat × Wk) := cntU l l.length
theorem cntU_succ {l : List Wk} {i : Nat} {v : Wk} (hv : l[i]? = some v) : cntU l (i + 1) = cntU l i ++ if isC l i v then [(i, v)] else [] := by
  unfold cntU
  rw [List.range_succ, List.filterMap_append]
  congr 1
  simp only [List.filterMap_cons, List.filterMap_nil, hv]
  split <;> simp_all
theorem cntU_len (l : List Wk) (i : Nat) : (cntU l i).length ≤ i := by
  unfold cntU
  exact Nat.le_trans (List.length_filterMap_le _ _) (by simp)

/-- What a round keeps: what lay below n₀, and rows of bools and boxes of a record. -/
def KpB (n₀ : Nat) (W W' : World) : Prop := Below n₀ W W' ∧ ∀ (k : Nat) (cs : Array Value) (e : TypeId) (m : Nat × Nat), W.heap[k]? = some (.cells cs e m) → (e = 4 ∨ e = 22) → W'.heap[k]? = some (.cells cs e m)
theorem KpB.refl (n₀ : Nat) (W : World) : KpB n₀ W W := ⟨Below.refl _ _, fun _ _ _ _ h _ => h⟩
theorem KpB.trans {n₀ : Nat} {A B C : World} (h : KpB n₀ A B) (k : KpB n₀ B C) : KpB n₀ A C := ⟨h.1.trans k.1, fun i cs e m hi he => k.2 i cs e m (h.2 i cs e m hi he) he⟩
theorem KpB.put {n₀ : Nat} {w : World} (hn : n₀ ≤ w.heap.size) (W : World) (l : Nat) (o o' : Obj) (hl : w.heap.size ≤ l) (h : W.heap[l]? = some o) (h1 : o.isCells = false) (h2 : o.isWalk = false) : KpB n₀ W (W.putObj l o') :=
  ⟨belowK_b hn W l o o' hl h h1 h2, fun k cs e m hk _ => by
    have hne : l ≠ k := fun e => by
      subst e
      rw [h] at hk
      cases hk
      cases h1
    have := (grownBy_putObj' W l o').block k (Array.getElem?_eq_some_iff.1 hk).1 (fun e => hne (by cases e; rfl))
    rw [this]
    exact hk⟩
theorem KpB.kp {n₀ : Nat} {W W' : World} (h : Kp No W W') (hn : n₀ ≤ W.heap.size) : KpB n₀ W W' :=
  ⟨h.toBelowB hn fun _ _ => id, fun _ _ _ _ hk _ => h.heap hk id⟩

theorem own_block {w w' : World} {base n : Nat} {e : TypeId} {size : Nat} {v : Value} {xs : List Value} (h : w.ownsRow base e size v n xs) (hb : ∀ g, v.ownBlock = some g → w'.heap[g]? = w.heap[g]?) : w'.ownsRow base e size v n xs := by
  rcases h with ⟨hl, h0 | ⟨g, cap, cur, hv, hb0, hh, rest⟩⟩
  · exact ⟨hl, .inl h0⟩
  · exact ⟨hl, .inr ⟨g, cap, cur, hv, hb0, (hb g (by rw [hv]; rfl)).trans hh, rest⟩⟩
theorem KpB.own {n₀ : Nat} {W W' : World} (h : KpB n₀ W W') {base n : Nat} {size : Nat} {v : Value} {xs : List Value} (ho : W.ownsRow base 4 size v n xs) : W'.ownsRow base 4 size v n xs :=
  own_block ho fun g hg => by
    rcases ho with ⟨_, ⟨h0, _⟩ | ⟨g', cap, cur, hv, _, hh, _⟩⟩
    · rw [h0] at hg
      cases hg
    · rw [hv] at hg
      cases hg
      rw [hh]
      exact h.2 _ _ _ _ hh (.inl rfl)
theorem abid_kp {β : Type} {B : Nat} {J : β → World → Prop} (h : AbidesFrom B J) {s : β} {W W' : World} (hs : J s W) (k : Kp No W W') : J s W' := h s W W' none hs (k.toGrownNo _) (fun r e => (by cases e))
set_option maxRecDepth 100000 in
set_option maxHeartbeats 4000000 in
theorem count1_in (n : Nat) (hn : 1 ≤ n) (lp Bx : Nat) (w0 : World) (A : Option Addr) (nn ca : Nat) (l : List Wk) (hR : Rec l) (hx : RdW w0 A nn l) (J Jx : List CW → World → Prop)
    (hY : ∀ pre x W, J pre W → pre.length < l.length → YieldAt Fence.wide (n - 1) Try.prog lp (encC x) W fun e W' => (e = .returned (.bool true) ∧ J (pre ++ [x]) W' ∧ KpB w0.heap.size W W') ∨ (e = .returned (.bool false) ∧ Jx (pre ++ [x]) W'))
    (W : World) (hJ : AbidesFrom W.heap.size J) (hb0 : Below w0.heap.size w0 W) (hm : W.heap[Bx]? = some (.cells #[.slice A nn ca] 22 (0, 0))) (h0 : J [] W) :
    CallsIn Fence.wide n Try.prog 87 #[.func (.yield lp) #[] #[], .pointer (some ⟨Bx, 0, none⟩)] W fun e W' => (∃ v, e = .returned v) ∧ ((∃ ss : List CW, ss.map Subtype.val = cntL l ∧ J ss W') ∨ ∃ pre : List CW, True ∧ Jx pre W') := by
  have hl := hx.1
  have hlen := hR.len
  have hxW := hx.no (Kp.below (S := No) hb0)
  have hsz0 := hb0.size
  have hc0 : W.cell? ⟨Bx, 0, none⟩ = some (.slice A nn ca) := by rw [cell_of_row _ _ _ _ _ _ hm]; rfl
  have HM := Lib.hid hm
  have HRC := Lib.hid hR
  have hun := undone_any A nn ca l W hxW (by omega) hR.names
  clear hm hR
  refine callsIn_of_wp Try.func87 rfl trivial ?_ rfl
  simp only [Try.ntmps87, List.size_toArray, List.length_cons, List.length_nil, Nat.reduceAdd, Nat.reduceSub, Array.replicate_succ, Array.replicate_zero, List.push_toArray, List.append_toArray, List.nil_append, List.cons_append]
  gi_wp2_with (first
    | (refine ⟨trivial, ?_⟩; gi_at_call 58; refine (callsIn_wide.2 hun).mono ?_; rintro e W1 ⟨G, rfl, hG, hk1⟩; have hc1 : W1.cell? ⟨Bx, 0, none⟩ = some (.slice A nn ca) := hk1.cell hc0 id; clear hc0)
    | gi_in)
  have hB1 : KpB w0.heap.size w0 W1 := ⟨hb0.trans (hk1.toBelowB hsz0 fun _ _ => id), fun k cs e m hk _ => hk1.heap ((hb0.block k (Array.getElem?_eq_some_iff.1 hk).1).trans hk) id⟩
  have hJ1 := abid_kp hJ h0 hk1
  have HG := Lib.hid hG
  have HB1 := Lib.hid hB1
  have hszW := hk1.size
  clear hG hB1 hun hxW hk1 hc1
  gi_loopw [10] (fun vi wr => ∃ (i : Nat) (pre : List CW), i ≤ nn ∧ vi = .int .i64 i ∧ pre.map Subtype.val = cntU l i ∧ J pre wr ∧ KpB w0.heap.size W1 wr) (fun vi _ => nn - (intOf vi).toNat)
  case atStart => exact ⟨0, [], by omega, rfl, rfl, hJ1, KpB.refl _ _⟩
  case round =>
    obtain ⟨i, pre, hi, rfl, hpre, hJs, hkb⟩ := hrel
    have HP := Lib.hid hpre
    have HKB := Lib.hid hkb
    have HJ := Lib.hid hJs
    have hszr : w0.heap.size ≤ wr.heap.size := by have := hkb.1.size; omega
    have hBl : Below w0.heap.size w0 wr := HB1.out.1.trans hkb.1
    have HX := Lib.hid (hx.no (Kp.below (S := No) hBl))
    clear hpre hJs hkb hBl
    by_cases hlt : i < nn
    · obtain ⟨v, hv⟩ : ∃ v, l[i]? = some v := ⟨_, List.getElem?_eq_getElem (by omega)⟩
      obtain ⟨b, o, rfl, hb, hat⟩ := RdW.at_ HX.out hv
      obtain ⟨c0, c1, c2, c3, c4, c5, c6, c7, c8, c9, c10⟩ := hat
      obtain ⟨q, hq⟩ : ∃ q, (undL l)[i]? = some q := ⟨_, List.getElem?_eq_getElem (by unfold undL; rw [undAt_len]; omega)⟩
      have hg0 : wr.cell? ⟨G, i, none⟩ = some (.bool q) := own_cell (HKB.out.own HG.out) (by rw [List.getElem?_map, hq]; rfl)
      have HS := Lib.hid (cntU_succ hv)
      have HQ := Lib.hid (show isC l i v = (!q && v.kd != 4) by unfold isC; rw [List.getD_eq_getElem?_getD, hq]; rfl)
      have HOK := Lib.hid (HRC.out.ok v (List.mem_of_getElem? hv))
      have hka : Kp No wr (wr.alloc (.cells v.cells.toArray 41)) := Kp.alloc _ _ _
      have HJA := Lib.hid (abid_kp hJ HJ.out hka)
      have hgA : (wr.alloc (.cells v.cells.toArray 41)).cell? ⟨G, i, none⟩ = some (.bool q) := hka.cell hg0 id
      have hpl : pre.length < l.length := by have h1 := congrArg List.length HP.out; rw [List.length_map] at h1; have := cntU_len l i; omega
      have HKA := Lib.hid (HKB.out.trans (KpB.kp hka hszr))
      clear hv hq hg0 hka
      simp only [Wk.cells] at hgA
      cases q with
      | true =>
        have HS2 := Lib.hid (show cntU l (i + 1) = cntU l i by rw [HS.out, HQ.out]; simp)
        gi_wp2
        refine ⟨fun _ h => (by cases h), ?_⟩
        gi_wp2
        go_roundw
        case rel => exact ⟨i + 1, pre, by omega, by go_num, by rw [HS2.out]; exact HP.out, HJA.out, HKA.out⟩
        case measure => simp [intOf]; omega
      | false =>
        by_cases h4 : v.kd = 4
        · have h4' : (v.kd != 4) = false := by rw [h4]; rfl
          have HS2 := Lib.hid (show cntU l (i + 1) = cntU l i by rw [HS.out, HQ.out, h4']; simp)
          clear h4
          gi_wp2
          refine ⟨fun _ h => (by cases h), ?_⟩
          gi_wp2
          go_roundw
          case rel => exact ⟨i + 1, pre, by omega, by go_num, by rw [HS2.out]; exact HP.out, HJA.out, HKA.out⟩
          case measure => simp [intOf]; omega
        · have h4' : (v.kd != 4) = true := by simp [h4]
          have HS2 := Lib.hid (show cntU l (i + 1) = cntU l i ++ [(i, v)] by rw [HS.out, HQ.out, h4']; rfl)
          obtain ⟨x, hxv⟩ : ∃ x : CW, x.1 = (i, v) := ⟨⟨(i, v), HOK.out, h4⟩, rfl⟩
          obtain ⟨fn, tmps, assign, body, hy, hR⟩ := hY pre x _ HJA.out hpl
          have HXV := Lib.hid hxv
          simp only [encC, hxv, Wk.val, Wk.cells] at hy
          clear h4 hxv
          gi_wp2
          refine hR.mono ?_
          clear hy hR
          rintro e W3 (⟨rfl, hJ3, hk3⟩ | ⟨rfl, hJx3⟩)
          · have HJ3 := Lib.hid hJ3
            have HK3 := Lib.hid (HKA.out.trans hk3)
            clear hJ3 hk3
            gi_wp2
            go_roundw
            case rel => exact ⟨i + 1, pre ++ [x], by omega, by go_num, by rw [HS2.out, List.map_append, HP.out]; simp [HXV.out], HJ3.out, HK3.out⟩
            case measure => simp [intOf]; omega
          · have HJ3 := Lib.hid hJx3
            clear hJx3
            gi_wp2
            refine bodyPost_ret (results_none rfl _ _ _) rfl ?_
            exact ⟨⟨_, rfl⟩, .inr ⟨_, trivial, HJ3.out⟩⟩
    · obtain rfl : i = nn := by omega
      gi_wp2
      go_end0
      exact ⟨⟨_, rfl⟩, .inl ⟨pre, by rw [HP.out]; unfold cntL; rw [hl], HJ.out⟩⟩
end Go.Proofs.Ytjbpdimepckmfaa
