/- Chapter 09: slices.partialInsertionSortCmpFunc of less than 50, reverseRangeCmpFunc: the walks. Printed by gen_sse.py. · Chapter 09: slices.order2CmpFunc, medianCmpFunc, choosePivotCmpFunc below 50: the walks. Printed by gen_ssf.py. -/
import Derived.Test.YtamjhpdgclbfgaaXSsAM
namespace Go.Proofs.Ytamjhpdgclbfgaa
open Go.RowKit Go.Kq Go.Sort

set_option maxHeartbeats 8000000 in
set_option maxRecDepth 100000 in
theorem pinsP_any (P : Pt) (A : Option Addr) (n ca : Nat) (l : List Ct) (base g cap m fa fb : Nat) (d : Array Nat) (w W0 : World) (hB : CmpB P A n ca l g w) (hs : Srt base g m cap n w d W0) (hm : m < 50) (hab : fa < fb) (hb : fb ≤ m) :
    Calls Try.prog 91 #[.slice (some ⟨g, 0, none⟩) m cap, .int .i64 (fa : Nat), .int .i64 (fb : Nat), befV P A n ca] W0 fun e w' => ∃ bl, e = .returned (.bool bl) ∧ (bl = true → SortedIn (ltB l) fa fb d) ∧ Srt base g m cap n w d w' := by
  have mixed : Try.prog.follows .mixedOrders = true := by kernel_rfl
  have HB := Lib.hid hB
  have HS := Lib.hid hs
  have hwa : IntKind.i64.wrap ((fa : Int) + 1) = ((fa + 1 : Nat) : Int) := by rw [IntKind.wrap_i64]; omega
  have hwl : IntKind.i64.wrap ((fb : Int) - (fa : Int)) = ((fb - fa : Nat) : Int) := by rw [IntKind.wrap_i64]; omega
  have hll : ((fb - fa : Nat) : Int) < 50 := by omega
  clear hB hs
  simp only [befV, jobV]
  go_enter Try.func91, Try.ntmps91
  go_wp2_with fail
  refine wp_loop_rounds 1 ?_
  rw [rounds_succ]
  go_wp2_with fail
  go_loopw [9] (fun vi wr => ∃ i : Nat, fa + 1 ≤ i ∧ i ≤ fb ∧ vi = .int .i64 (i : Nat) ∧ SortedIn (ltB l) fa i d ∧ Srt base g m cap n w d wr) (fun vi _ => fb + 1 - (intOf vi).toNat)
  case atStart => exact ⟨fa + 1, Nat.le_refl _, by omega, by simp, sorted_one, HS.out⟩
  case round =>
    obtain ⟨i, hi1, hi2, rfl, hso, hsr⟩ := hrel
    have HSO := Lib.hid hso
    replace HS := Lib.hid hsr
    clear hso hsr
    by_cases hlt : i < fb
    · have hd0 : decide ((i : Int) < (fb : Int)) = true := decide_eq_true (by omega)
      obtain ⟨i1, hi⟩ : ∃ r, r = i - 1 := ⟨_, rfl⟩
      have hwi : IntKind.i64.wrap ((i : Int) - 1) = ((i1 : Nat) : Int) := by rw [IntKind.wrap_i64]; omega
      have hwn : IntKind.i64.wrap ((i : Int) + 1) = ((i + 1 : Nat) : Int) := by rw [IntKind.wrap_i64]; omega
      have hne : ((i : Int) = (fb : Int)) = False := eq_false (by omega)
      have HI := Lib.hid hi
      clear hi
      obtain ⟨x, hx⟩ : ∃ x : Nat, d[i]! = x := ⟨_, rfl⟩
      have hxm : i < m := by omega
      have hxi : (i : Int) < (m : Nat) := by omega
      have gx := fun N os => HS.out.cg hxm hx N os
      obtain ⟨y, hy⟩ : ∃ x : Nat, d[i1]! = x := ⟨_, rfl⟩
      have hym : i1 < m := by have := HI.out; omega
      have hyi : (i1 : Int) < (m : Nat) := by omega
      have gy := fun N os => HS.out.cg hym hy N os
      have HC := Lib.hid (fun N os => HB.out (grow (wr.drewN N) os) (HS.out.k.no (kp_of_grow ⟨N, os, rfl⟩)) x y (by rw [← hx]; exact HS.out.lt _ hxm) (by rw [← hy]; exact HS.out.lt _ hym))
      obtain ⟨c, hc⟩ : ∃ c, befF l x y = c := ⟨_, rfl⟩
      rw [hc] at HC
      have HLT := Lib.hid (show ltB l d[i]! d[i1]! = decide (c < 0) by rw [hx, hy, ← hc]; rfl)
      clear hx hy hc
      by_cases hneg : c < 0
      · have hdn : decide (c < 0) = true := decide_eq_true hneg
        have HL := Lib.hid (show ltB l d[i]! d[i1]! = true by rw [HLT.out, hdn])
        go_wp2_with fail
        go_quiet_grown (first | (go_at_call 37; refine Calls.grown_of (HC.out _ _)))
        have HS2 := Lib.hid (HS.out.grown ⟨nq, osq, rfl⟩)
        clear HC HLT gx gy
        generalize grow (wr.drewN nq) osq = wq at *
        go_wp2_with fail
        (try simp only [Exit.inBlock, Exit.then])
        go_ret
        exact ⟨false, rfl, (fun h => by cases h), HS2.out⟩
      · have hdn : decide (c < 0) = false := decide_eq_false hneg
        have HL := Lib.hid (show ltB l d[i]! d[i1]! = false by rw [HLT.out, hdn])
        go_wp2_with fail
        go_quiet_grown (first | (go_at_call 37; refine Calls.grown_of (HC.out _ _)))
        have HS2 := Lib.hid (HS.out.grown ⟨nq, osq, rfl⟩)
        clear HC HLT gx gy
        generalize grow (wr.drewN nq) osq = wq at *
        have HN := Lib.hid (show SortedIn (ltB l) fa (i + 1) d from HSO.out.snoc (ltB_swo l) (by have h := HL.out; rw [HI.out] at h; exact h))
        go_wp2_with fail
        go_roundw
        case rel => exact ⟨i + 1, by omega, by omega, by go_num, HN.out, HS2.out⟩
        case measure => simp [intOf]; omega
    · obtain rfl : i = fb := by omega
      have hd0 : decide ((i : Int) < (i : Int)) = false := decide_eq_false (by omega)
      go_wp2_with fail
      go_quiet (fail)
      go_wp2_with fail
      (try simp only [Exit.inBlock, Exit.then])
      go_ret
      exact ⟨true, rfl, fun _ => HSO.out, HS.out.no (Kp.drewN No _ _)⟩
set_option maxHeartbeats 8000000 in
set_option maxRecDepth 100000 in
theorem revP_any (P : Pt) (A : Option Addr) (n ca : Nat) (base g cap m fa fb : Nat) (d : Array Nat) (w W0 : World) (hs : Srt base g m cap n w d W0) (hm : m ≤ 1000) (hab : fa < fb) (hb : fb ≤ m) :
    Calls Try.prog 90 #[.slice (some ⟨g, 0, none⟩) m cap, .int .i64 (fa : Nat), .int .i64 (fb : Nat), befV P A n ca] W0 fun e w' => e = .returned (.tuple #[]) ∧ ∃ d', PermIn fa fb d d' ∧ Srt base g m cap n w d' w' := by
  have HS := Lib.hid hs
  have HDS := Lib.hid hs.sz
  obtain ⟨j0, hj0⟩ : ∃ r, r = fb - 1 := ⟨_, rfl⟩
  have hwj : IntKind.i64.wrap ((fb : Int) - 1) = ((j0 : Nat) : Int) := by rw [IntKind.wrap_i64]; omega
  have HJ0 := Lib.hid hj0
  clear hs hj0
  simp only [befV, jobV]
  go_enter Try.func90, Try.ntmps90
  go_wp2_with fail
  go_loopw [8, 9] (fun vi vj wr => ∃ (i j : Nat) (dj : Array Nat), fa ≤ i ∧ j + 1 ≤ fb ∧ vi = .int .i64 (i : Nat) ∧ vj = .int .i64 (j : Nat) ∧ PermIn fa fb d dj ∧ Srt base g m cap n w dj wr) (fun _ vj _ => (intOf vj).toNat)
  case atStart => exact ⟨fa, j0, d, Nat.le_refl _, by have := HJ0.out; omega, rfl, rfl, permIn_refl _ _ _, HS.out⟩
  case round =>
    obtain ⟨i, j, dj, hi, hj, rfl, rfl, hp, hsr⟩ := hrel
    have HP := Lib.hid hp
    replace HS := Lib.hid hsr
    clear hp hsr
    by_cases hlt : i < j
    · have hlt' : (i : Int) < (j : Int) := by omega
      obtain ⟨j1, hj1⟩ : ∃ r, r = j - 1 := ⟨_, rfl⟩
      have hwi : IntKind.i64.wrap ((i : Int) + 1) = ((i + 1 : Nat) : Int) := by rw [IntKind.wrap_i64]; omega
      have hwj1 : IntKind.i64.wrap ((j : Int) - 1) = ((j1 : Nat) : Int) := by rw [IntKind.wrap_i64]; omega
      have HPN := Lib.hid (rev_on hi hlt hj (by rw [HDS.out]; exact hb) HP.out)
      have HJ1 := Lib.hid hj1
      clear HP hj1
      obtain ⟨xI, hxI⟩ : ∃ x : Nat, dj[i]! = x := ⟨_, rfl⟩
      obtain ⟨xJ, hxJ⟩ : ∃ x : Nat, dj[j]! = x := ⟨_, rfl⟩
      have hI : i < m := by omega
      have hJ : j < m := by omega
      have hI' : (i : Int) < (m : Nat) := by omega
      have hJ' : (j : Int) < (m : Nat) := by omega
      have HSW := Lib.hid (show wr.ownsRow base 3 1 (.slice (some ⟨g, 0, none⟩) m cap) m (dj.toList.map natI) ∧ (dj.toList.map natI)[i]? = some (.int .i64 (xI : Nat)) ∧ (dj.toList.map natI)[j]? = some (.int .i64 (xJ : Nat)) ∧ ∀ W', W'.ownsRow base 3 1 (.slice (some ⟨g, 0, none⟩) m cap) m (((dj.toList.map natI).set i (.int .i64 (xJ : Nat))).set j (.int .i64 (xI : Nat))) → Kp (One g) wr W' → Srt base g m cap n w (swp dj i j) W' from ⟨HS.out.row, HS.out.at_ hI hxI, HS.out.at_ hJ hxJ, fun W' ho k => HS.out.swp hI hJ hxI hxJ ho k⟩)
      have HLN := Lib.hid (show (dj.toList.map natI).length = m by have := HS.out.row.1; simpa using this)
      clear hxI hxJ
      go_wp2_with fail
      refine wp_region_each (fun ix uR => match ix with | 0 => uR = .slice (some ⟨g, 0, none⟩) m cap | 1 => uR = .int .i64 (i : Nat) | 2 => uR = .slice (some ⟨g, 0, none⟩) m cap | 3 => uR = .int .i64 (j : Nat) | 4 => uR = .slice (some ⟨g, 0, none⟩) m cap | 5 => uR = .int .i64 (j : Nat) | 6 => uR = .pointer (some ⟨g, j, none⟩) | 7 => uR = .int .i64 (xJ : Nat) | 8 => uR = .slice (some ⟨g, 0, none⟩) m cap | 9 => uR = .int .i64 (i : Nat) | 10 => uR = .pointer (some ⟨g, i, none⟩) | 11 => uR = .int .i64 (xI : Nat) | 12 => uR = .pointer (some ⟨g, i, none⟩) | 14 => uR = .pointer (some ⟨g, j, none⟩) | _ => True) (Sx wr g base 3 m cap (dj.toList.map natI) i j (.int .i64 (xI : Nat)) (.int .i64 (xJ : Nat)) 7 11 13 15) (by kernel_rfl) (by kernel_rfl) (by kernel_rfl) ?_ ?_ ?_
      · exact Sx.start HSW.out.1 HSW.out.2.1 HSW.out.2.2.1
      · refine ⟨?_, ?_, ?_, ?_, ?_, ?_, ?_, ?_, ?_, ?_, ?_, ?_, ?_, ?_, ?_, ?_, trivial⟩
        · intro r a w' hf hg hW hr hd K hK
          refine wpOp_of rfl rfl ?_
          have e0 : a.tmps.getD 0 undef = .slice (some ⟨g, 0, none⟩) m cap := hf.evalFree (by kernel_rfl)
          go_simp
          exact hK _ _ rfl (hW.upd 0 _ (by decide) (by decide))
        · intro r a w' hf hg hW hr hd K hK
          refine wpOp_of rfl rfl ?_
          have e0 : a.tmps.getD 8 undef = .int .i64 (i : Nat) := hf.evalFree (by kernel_rfl)
          go_simp
          exact hK _ _ rfl (hW.upd 1 _ (by decide) (by decide))
        · intro r a w' hf hg hW hr hd K hK
          refine wpOp_of rfl rfl ?_
          have e0 : a.tmps.getD 0 undef = .slice (some ⟨g, 0, none⟩) m cap := hf.evalFree (by kernel_rfl)
          go_simp
          exact hK _ _ rfl (hW.upd 2 _ (by decide) (by decide))
        · intro r a w' hf hg hW hr hd K hK
          refine wpOp_of rfl rfl ?_
          have e0 : a.tmps.getD 9 undef = .int .i64 (j : Nat) := hf.evalFree (by kernel_rfl)
          go_simp
          exact hK _ _ rfl (hW.upd 3 _ (by decide) (by decide))
        · intro r a w' hf hg hW hr hd K hK
          refine wpOp_of rfl rfl ?_
          have e0 : a.tmps.getD 0 undef = .slice (some ⟨g, 0, none⟩) m cap := hf.evalFree (by kernel_rfl)
          go_simp
          exact hK _ _ rfl (hW.upd 4 _ (by decide) (by decide))
        · intro r a w' hf hg hW hr hd K hK
          refine wpOp_of rfl rfl ?_
          have e0 : a.tmps.getD 9 undef = .int .i64 (j : Nat) := hf.evalFree (by kernel_rfl)
          go_simp
          exact hK _ _ rfl (hW.upd 5 _ (by decide) (by decide))
        · intro r a w' hf hg hW hr hd K hK
          refine wpOp_of rfl rfl ?_
          refine hf.depE hg hd 4 20 (by kernel_rfl) fun u0 e0 g0 h0 => ?_
          replace g0 : u0 = .slice (some ⟨g, 0, none⟩) m cap := g0
          subst g0
          refine hf.depE hg hd 5 21 (by kernel_rfl) fun u1 e1 g1 h1 => ?_
          replace g1 : u1 = .int .i64 (j : Nat) := g1
          subst g1
          go_simp
          exact hK _ _ rfl (hW.upd 6 _ (by decide) (by decide))
        · intro r a w' hf hg hW hr hd K hK
          refine wpOp_of rfl rfl ?_
          refine hf.depE hg hd 6 22 (by kernel_rfl) fun u0 e0 g0 h0 => ?_
          replace g0 : u0 = .pointer (some ⟨g, j, none⟩) := g0
          subst g0
          have z0 := hW.loadj hr
          go_simp
          exact hK _ _ rfl (hW.upd 7 _ (by decide) (by decide))
        · intro r a w' hf hg hW hr hd K hK
          refine wpOp_of rfl rfl ?_
          have e0 : a.tmps.getD 0 undef = .slice (some ⟨g, 0, none⟩) m cap := hf.evalFree (by kernel_rfl)
          go_simp
          exact hK _ _ rfl (hW.upd 8 _ (by decide) (by decide))
        · intro r a w' hf hg hW hr hd K hK
          refine wpOp_of rfl rfl ?_
          have e0 : a.tmps.getD 8 undef = .int .i64 (i : Nat) := hf.evalFree (by kernel_rfl)
          go_simp
          exact hK _ _ rfl (hW.upd 9 _ (by decide) (by decide))
        · intro r a w' hf hg hW hr hd K hK
          refine wpOp_of rfl rfl ?_
          refine hf.depE hg hd 8 24 (by kernel_rfl) fun u0 e0 g0 h0 => ?_
          replace g0 : u0 = .slice (some ⟨g, 0, none⟩) m cap := g0
          subst g0
          refine hf.depE hg hd 9 25 (by kernel_rfl) fun u1 e1 g1 h1 => ?_
          replace g1 : u1 = .int .i64 (i : Nat) := g1
          subst g1
          go_simp
          exact hK _ _ rfl (hW.upd 10 _ (by decide) (by decide))
        · intro r a w' hf hg hW hr hd K hK
          refine wpOp_of rfl rfl ?_
          refine hf.depE hg hd 10 26 (by kernel_rfl) fun u0 e0 g0 h0 => ?_
          replace g0 : u0 = .pointer (some ⟨g, i, none⟩) := g0
          subst g0
          have z0 := hW.loadi hr
          go_simp
          exact hK _ _ rfl (hW.upd 11 _ (by decide) (by decide))
        · intro r a w' hf hg hW hr hd K hK
          refine wpOp_of rfl rfl ?_
          refine hf.depE hg hd 0 16 (by kernel_rfl) fun u0 e0 g0 h0 => ?_
          replace g0 : u0 = .slice (some ⟨g, 0, none⟩) m cap := g0
          subst g0
          refine hf.depE hg hd 1 17 (by kernel_rfl) fun u1 e1 g1 h1 => ?_
          replace g1 : u1 = .int .i64 (i : Nat) := g1
          subst g1
          go_simp
          exact hK _ _ rfl (hW.upd 12 _ (by decide) (by decide))
        · intro r a w' hf hg hW hr hd K hK
          refine wpOp_of rfl rfl ?_
          refine hf.depE hg hd 12 28 (by kernel_rfl) fun u0 e0 g0 h0 => ?_
          replace g0 : u0 = .pointer (some ⟨g, i, none⟩) := g0
          subst g0
          refine hf.depE hg hd 7 23 (by kernel_rfl) fun u1 e1 g1 h1 => ?_
          replace g1 : u1 = .int .i64 (xJ : Nat) := g1
          subst g1
          refine hf.depE hg hd 11 27 (by kernel_rfl) fun uo eo go ho => ?_
          obtain ⟨old, y0⟩ := hW.old (k := i) hI HLN.out
          have y1 := hW.free i
          go_simp
          exact hK undef _ trivial (hW.sta hr (by rw [ho]; simp) (by decide) undef)
        · intro r a w' hf hg hW hr hd K hK
          refine wpOp_of rfl rfl ?_
          refine hf.depE hg hd 2 18 (by kernel_rfl) fun u0 e0 g0 h0 => ?_
          replace g0 : u0 = .slice (some ⟨g, 0, none⟩) m cap := g0
          subst g0
          refine hf.depE hg hd 3 19 (by kernel_rfl) fun u1 e1 g1 h1 => ?_
          replace g1 : u1 = .int .i64 (j : Nat) := g1
          subst g1
          go_simp
          exact hK _ _ rfl (hW.upd 14 _ (by decide) (by decide))
        · intro r a w' hf hg hW hr hd K hK
          refine wpOp_of rfl rfl ?_
          refine hf.depE hg hd 14 29 (by kernel_rfl) fun u0 e0 g0 h0 => ?_
          replace g0 : u0 = .pointer (some ⟨g, j, none⟩) := g0
          subst g0
          refine hf.depE hg hd 11 27 (by kernel_rfl) fun u1 e1 g1 h1 => ?_
          replace g1 : u1 = .int .i64 (xI : Nat) := g1
          subst g1
          refine hf.depE hg hd 7 23 (by kernel_rfl) fun uo eo go ho => ?_
          obtain ⟨old, y0⟩ := hW.old (k := j) hJ HLN.out
          have y1 := hW.free j
          go_simp
          exact hK undef _ trivial (hW.stb hr (by rw [ho]; simp) (by decide) undef)
      intro r' w9 hg hW hr'
      simp only [List.length_cons, List.length_nil, Nat.reduceAdd, List.range_succ, List.range_zero, List.nil_append, List.cons_append, List.map_cons, List.map_nil, putAll, Act.put, List.setIfInBounds_toArray, List.set_cons_succ, List.set_cons_zero]
      have ho9 := hW.fin (hr' 13 (by decide)) (hr' 15 (by decide))
      have HS9 := Lib.hid (HSW.out.2.2.2 _ ho9 hW.kp)
      clear hg hW hr' ho9 HSW HLN hI hJ hI' hJ'
      go_wp2_with fail
      go_roundw
      case rel => exact ⟨i + 1, j1, swp dj i j, by omega, by have := HJ1.out; omega, by go_num, by go_num, HPN.out, HS9.out⟩
      case measure => have := HJ1.out; simp [intOf]; omega
    · have hlt' : (j : Int) ≤ (i : Int) := by omega
      go_wp2_with fail
      go_end0
      exact ⟨rfl, dj, HP.out, HS.out⟩
end Go.Proofs.Ytamjhpdgclbfgaa

namespace Go.Proofs.Ytamjhpdgclbfgaa
open Go.RowKit Go.Kq Go.Sort

structure Cu (base g m cap n : Nat) (w : World) (d : Array Nat) (gs : Nat) (W : World) : Prop where
  s : Srt base g m cap n w d W
  c : ∃ k : Int, W.cell? ⟨gs, 0, none⟩ = some (.int .i64 k)
  f : W.frozen? ⟨gs, 0, none⟩ = false
  ne : gs ≠ g
  ge : w.heap.size ≤ gs
theorem Srt.aside {base g m cap n gr : Nat} {w W W' : World} {d : Array Nat} (h : Srt base g m cap n w d W) (k : Kp (One gr) W W') (hg : gr ≠ g) (hw : w.heap.size ≤ gr) : Srt base g m cap n w d W' :=
  ⟨own_kp h.row k (fun b hb e => by have e : b = gr := e; have hb : some g = some b := hb; injection hb with hb; omega), h.lt, h.k.trans k fun b hb e => by have e : b = gr := e; omega⟩
section
variable {base g m cap n gs : Nat} {w W W' : World} {d : Array Nat}
theorem Cu.put (h : Cu base g m cap n w d gs W) (v : Int) : Cu base g m cap n w d gs (W.setCell ⟨gs, 0, none⟩ (.int .i64 v)) := by
  obtain ⟨k, hk⟩ := h.c
  exact ⟨h.s.aside (kp_setOne W gs 0 _) h.ne h.ge, ⟨v, World.cell?_setCell_same _ _ _ hk⟩, by rw [World.frozen?_setCell]; exact h.f, h.ne, h.ge⟩
theorem Cu.grown (h : Cu base g m cap n w d gs W) (hg : ∃ q os, W' = grow (W.drewN q) os) : Cu base g m cap n w d gs W' := by
  have hk := kp_of_grow hg
  obtain ⟨k, hc⟩ := h.c
  exact ⟨h.s.grown hg, ⟨k, hk.cell hc fun e => e⟩, (hk.frozen (a := ⟨gs, 0, none⟩) (World.block_lt_of_cell? W _ hc) fun e => e).trans h.f, h.ne, h.ge⟩
end
set_option maxHeartbeats 8000000 in
set_option maxRecDepth 100000 in
theorem ord2P_any (P : Pt) (A : Option Addr) (n ca : Nat) (l : List Ct) (base g cap m lo hi p q gs : Nat) (d : Array Nat) (w W0 : World) (hB : CmpB P A n ca l g w) (hs : Cu base g m cap n w d gs W0) (hp1 : lo ≤ p) (hp2 : p < hi) (hq1 : lo ≤ q) (hq2 : q < hi) (hh : hi ≤ m) :
    Calls Try.prog 125 #[.slice (some ⟨g, 0, none⟩) m cap, .int .i64 (p : Nat), .int .i64 (q : Nat), .pointer (some ⟨gs, 0, none⟩), befV P A n ca] W0 fun e w' => ∃ p' q' : Nat, e = .returned (.tuple #[.int .i64 (p' : Nat), .int .i64 (q' : Nat)]) ∧ lo ≤ p' ∧ p' < hi ∧ lo ≤ q' ∧ q' < hi ∧ Cu base g m cap n w d gs w' := by
  have mixed : Try.prog.follows .mixedOrders = true := by kernel_rfl
  have HB := Lib.hid hB
  have HU := Lib.hid hs
  have HS := Lib.hid hs.s
  clear hB hs
  simp only [befV, jobV]
  go_enter Try.func125, Try.ntmps125
  obtain ⟨x, hx⟩ : ∃ x : Nat, d[q]! = x := ⟨_, rfl⟩
  have hxm : q < m := by omega
  have hxi : (q : Int) < (m : Nat) := by omega
  have gx := fun N os => HS.out.cg hxm hx N os
  obtain ⟨y, hy⟩ : ∃ x : Nat, d[p]! = x := ⟨_, rfl⟩
  have hym : p < m := by omega
  have hyi : (p : Int) < (m : Nat) := by omega
  have gy := fun N os => HS.out.cg hym hy N os
  have HC := Lib.hid (fun N os => HB.out (grow (W0.drewN N) os) (HS.out.k.no (kp_of_grow ⟨N, os, rfl⟩)) x y (by rw [← hx]; exact HS.out.lt _ hxm) (by rw [← hy]; exact HS.out.lt _ hym))
  obtain ⟨c, hc⟩ : ∃ c, befF l x y = c := ⟨_, rfl⟩
  rw [hc] at HC
  have HLT := Lib.hid (show ltB l d[q]! d[p]! = decide (c < 0) by rw [hx, hy, ← hc]; rfl)
  clear hx hy hc
  by_cases hneg : c < 0
  · have hdn : decide (c < 0) = true := decide_eq_true hneg
    have HL := Lib.hid (show ltB l d[q]! d[p]! = true by rw [HLT.out, hdn])
    go_wp2_with fail
    go_quiet_grown (first | (go_at_call 37; refine Calls.grown_of (HC.out _ _)))
    have HS2 := Lib.hid (HS.out.grown ⟨nq, osq, rfl⟩)
    have HCG := Lib.hid (HU.out.grown ⟨nq, osq, rfl⟩)
    clear HC HLT gx gy
    generalize grow (W0.drewN nq) osq = wq at *
    obtain ⟨k2, hk2⟩ := HCG.out.c
    have hf2 := HCG.out.f
    go_wp2_with fail
    (try simp only [Exit.inBlock, Exit.then])
    exact bodyPost_ret (v := .tuple #[.int .i64 (q : Nat), .int .i64 (p : Nat)]) (by simp [results, Try.results125, go_sem]) rfl ⟨q, p, rfl, hq1, hq2, hp1, hp2, HCG.out.put _⟩
  · have hdn : decide (c < 0) = false := decide_eq_false hneg
    have HL := Lib.hid (show ltB l d[q]! d[p]! = false by rw [HLT.out, hdn])
    go_wp2_with fail
    go_quiet_grown (first | (go_at_call 37; refine Calls.grown_of (HC.out _ _)))
    have HS2 := Lib.hid (HS.out.grown ⟨nq, osq, rfl⟩)
    have HCG := Lib.hid (HU.out.grown ⟨nq, osq, rfl⟩)
    clear HC HLT gx gy
    generalize grow (W0.drewN nq) osq = wq at *
    go_wp2_with fail
    (try simp only [Exit.inBlock, Exit.then])
    exact bodyPost_ret (v := .tuple #[.int .i64 (p : Nat), .int .i64 (q : Nat)]) (by simp [results, Try.results125, go_sem]) rfl ⟨p, q, rfl, hp1, hp2, hq1, hq2, HCG.out⟩
set_option maxHeartbeats 8000000 in
set_option maxRecDepth 100000 in
theorem medP_any (P : Pt) (A : Option Addr) (n ca : Nat) (l : List Ct) (base g cap m lo hi p q r gs : Nat) (d : Array Nat) (w W0 : World) (hB : CmpB P A n ca l g w) (hs : Cu base g m cap n w d gs W0) (hp1 : lo ≤ p) (hp2 : p < hi) (hq1 : lo ≤ q) (hq2 : q < hi) (hr1 : lo ≤ r) (hr2 : r < hi) (hh : hi ≤ m) :
    Calls Try.prog 117 #[.slice (some ⟨g, 0, none⟩) m cap, .int .i64 (p : Nat), .int .i64 (q : Nat), .int .i64 (r : Nat), .pointer (some ⟨gs, 0, none⟩), befV P A n ca] W0 fun e w' => ∃ p' : Nat, e = .returned (.int .i64 (p' : Nat)) ∧ lo ≤ p' ∧ p' < hi ∧ Cu base g m cap n w d gs w' := by
  have HC := Lib.hid (fun (p q : Nat) (W : World) hs h1 h2 h3 h4 => ord2P_any P A n ca l base g cap m lo hi p q gs d w W hB hs h1 h2 h3 h4 hh)
  have HU := Lib.hid hs
  clear hB hs
  obtain ⟨bv, hbv⟩ : ∃ bv, befV P A n ca = bv := ⟨_, rfl⟩
  rw [hbv] at HC ⊢
  go_enter Try.func117, Try.ntmps117
  go_wp2_with fail
  with_reducible refine (HC.out p q W0 HU.out hp1 hp2 hq1 hq2).mono ?_
  rintro e w1 ⟨p1, q1, rfl, a1, a2, a3, a4, hu⟩
  replace HU := Lib.hid hu
  clear hu
  go_wp2_with fail
  with_reducible refine (HC.out q1 r w1 HU.out a3 a4 hr1 hr2).mono ?_
  rintro e w2 ⟨q2, r2, rfl, b1, b2, b3, b4, hu⟩
  replace HU := Lib.hid hu
  clear hu
  go_wp2_with fail
  with_reducible refine (HC.out p1 q2 w2 HU.out a1 a2 b1 b2).mono ?_
  rintro e w3 ⟨p3, q3, rfl, c1, c2, c3, c4, hu⟩
  replace HU := Lib.hid hu
  clear hu
  go_wp2_with fail
  (try simp only [Exit.inBlock, Exit.then])
  go_ret
  exact ⟨q3, rfl, c3, c4, HU.out⟩
set_option maxHeartbeats 8000000 in
set_option maxRecDepth 100000 in
theorem choP_any (P : Pt) (A : Option Addr) (n ca : Nat) (l : List Ct) (base g cap m fa fb : Nat) (d : Array Nat) (w W0 : World) (hB : CmpB P A n ca l g w) (hs : Srt base g m cap n w d W0) (hm : m < 50) (hab : fa + 8 ≤ fb) (hb : fb ≤ m) :
    Calls Try.prog 89 #[.slice (some ⟨g, 0, none⟩) m cap, .int .i64 (fa : Nat), .int .i64 (fb : Nat), befV P A n ca] W0 fun e w' => ∃ (pv : Nat) (hint : Int), e = .returned (.tuple #[.int .i64 (pv : Nat), .int .i64 hint]) ∧ fa ≤ pv ∧ pv < fb ∧ (hint = 0 ∨ hint = 1 ∨ hint = 2) ∧ Srt base g m cap n w d w' := by
  have hgs := hs.blk.2
  have hws : w.heap.size ≤ W0.heap.size := hs.k.size
  obtain ⟨len, hlen⟩ : ∃ r, r = fb - fa := ⟨_, rfl⟩
  obtain ⟨q4, hq4⟩ : ∃ r, r = len / 4 := ⟨_, rfl⟩
  obtain ⟨s1, hs1⟩ : ∃ r, r = fa + q4 := ⟨_, rfl⟩
  obtain ⟨s2, hs2⟩ : ∃ r, r = fa + q4 * 2 := ⟨_, rfl⟩
  obtain ⟨s3, hs3⟩ : ∃ r, r = fa + q4 * 3 := ⟨_, rfl⟩
  have hwl : IntKind.i64.wrap ((fb : Int) - (fa : Int)) = ((len : Nat) : Int) := by rw [IntKind.wrap_i64]; omega
  have hl8 : (8 : Int) ≤ (len : Int) := by omega
  have hl50 : (len : Int) < 50 := by omega
  have hwq : Int.tdiv ((len : Nat) : Int) 4 = ((q4 : Nat) : Int) := by rw [Int.tdiv_eq_ediv_of_nonneg (by omega)]; omega
  have hqb : q4 ≤ 250 := by omega
  have hws1 : (fa : Int) + (q4 : Int) = ((s1 : Nat) : Int) := by omega
  have hws2 : (fa : Int) + (q4 : Int) * 2 = ((s2 : Nat) : Int) := by omega
  have hws3 : (fa : Int) + (q4 : Int) * 3 = ((s3 : Nat) : Int) := by omega
  have HR := Lib.hid (show (fa ≤ s1 ∧ s1 < fb) ∧ (fa ≤ s2 ∧ s2 < fb) ∧ fa ≤ s3 ∧ s3 < fb by omega)
  obtain ⟨gs, hgr⟩ : ∃ r, W0.heap.size = r := ⟨_, rfl⟩
  obtain ⟨W1, hW1⟩ : ∃ W1, W0.alloc (.cells #[.int .i64 0] 3) = W1 := ⟨_, rfl⟩
  have kW : Kp No W0 W1 := by rw [← hW1]; exact Kp.alloc _ _ _
  have hcr : W1.heap[gs]? = some (.cells #[.int .i64 0] 3 (0, 0)) := by rw [← hW1, ← hgr]; exact heap_alloc_new _ _
  have HU := Lib.hid (show Cu base g m cap n w d gs W1 from ⟨hs.no kW, ⟨0, by rw [cell_of_row _ _ _ _ _ _ hcr]; rfl⟩, by simp [World.frozen?, hcr], by omega, by omega⟩)
  have HC := Lib.hid (fun W hs => medP_any P A n ca l base g cap m fa fb s1 s2 s3 gs d w W hB hs HR.out.1.1 HR.out.1.2 HR.out.2.1.1 HR.out.2.1.2 HR.out.2.2.1 HR.out.2.2.2 hb)
  clear hs hB hlen hq4 hs1 hs2 hs3 hcr kW hgs hws HR
  obtain ⟨bv, hbv⟩ : ∃ bv, befV P A n ca = bv := ⟨_, rfl⟩
  rw [hbv] at HC ⊢
  go_enter Try.func89, Try.ntmps89
  go_wp2_with fail
  with_reducible refine (HC.out W1 HU.out).mono ?_
  rintro e w1 ⟨pv, rfl, hp1, hp2, hu⟩
  replace HU := Lib.hid hu
  obtain ⟨k, hk⟩ := hu.c
  have hf := hu.f
  clear hu HC
  by_cases hk0 : k = 0
  · subst hk0
    go_wp2_with fail
    (try simp only [Exit.inBlock, Exit.then])
    exact bodyPost_ret (v := .tuple #[.int .i64 (pv : Nat), .int .i64 1]) (by simp [results, Try.results89, go_sem]) rfl ⟨pv, 1, rfl, hp1, hp2, .inr (.inl rfl), HU.out.s⟩
  · by_cases hk12 : k = 12
    · subst hk12
      go_wp2_with fail
      (try simp only [Exit.inBlock, Exit.then])
      exact bodyPost_ret (v := .tuple #[.int .i64 (pv : Nat), .int .i64 2]) (by simp [results, Try.results89, go_sem]) rfl ⟨pv, 2, rfl, hp1, hp2, .inr (.inr rfl), HU.out.s⟩
    · go_wp2_with fail
      (try simp only [Exit.inBlock, Exit.then])
      exact bodyPost_ret (v := .tuple #[.int .i64 (pv : Nat), .int .i64 0]) (by simp [results, Try.results89, go_sem]) rfl ⟨pv, 0, rfl, hp1, hp2, .inl rfl, HU.out.s⟩
end Go.Proofs.Ytamjhpdgclbfgaa
