/- Chapter 09: slices.siftDownCmpFunc, heapSortCmpFunc: the walks. Printed by gen_ssc.py. -/
import Derived.Test.YtamjhpdgclbfgaaXSsB
namespace Go.Proofs.Ytamjhpdgclbfgaa
open Go.RowKit Go.Kq Go.Sort

theorem sift_end {lt : Nat → Nat → Bool} {hi first root : Nat} {d : Array Nat} (h : hi ≤ 2 * root + 1) : siftDown lt hi first root d = d := by
  unfold siftDown
  rw [dif_pos h]
theorem sift_right {lt : Nat → Nat → Bool} {hi first root : Nat} {d : Array Nat} (h : 2 * root + 2 < hi) (hl : lt d[first + (2 * root + 1)]! d[first + (2 * root + 2)]! = true) : siftDown lt hi first root d = if lt d[first + root]! d[first + (2 * root + 2)]! = true then siftDown lt hi first (2 * root + 2) (swp d (first + root) (first + (2 * root + 2))) else d := by
  conv => lhs; unfold siftDown
  rw [dif_neg (by omega), if_pos (by rw [show first + (2 * root + 1) + 1 = first + (2 * root + 2) by omega, hl]; simp; omega), dif_pos h]
  cases lt d[first + root]! d[first + (2 * root + 2)]! <;> simp
theorem sift_left {lt : Nat → Nat → Bool} {hi first root : Nat} {d : Array Nat} (h : 2 * root + 1 < hi) (hl : 2 * root + 2 < hi → lt d[first + (2 * root + 1)]! d[first + (2 * root + 2)]! = false) : siftDown lt hi first root d = if lt d[first + root]! d[first + (2 * root + 1)]! = true then siftDown lt hi first (2 * root + 1) (swp d (first + root) (first + (2 * root + 1))) else d := by
  conv => lhs; unfold siftDown
  rw [dif_neg (by omega), if_neg (by
    by_cases h2 : 2 * root + 2 < hi
    · rw [show first + (2 * root + 1) + 1 = first + (2 * root + 2) by omega, hl h2]
      simp
    · simp
      omega)]
  cases lt d[first + root]! d[first + (2 * root + 1)]! <;> simp
set_option maxHeartbeats 8000000 in
set_option maxRecDepth 100000 in
theorem siftP_any (P : Pt) (A : Option Addr) (n ca : Nat) (l : List Ct) (base g cap m lo hi first : Nat) (d : Array Nat) (w W0 : World) (hB : CmpB P A n ca l g w) (hs : Srt base g m cap n w d W0) (hm : m ≤ 1000) (hh : first + hi ≤ m) (hlo : lo ≤ m) :
    Calls Try.prog 113 #[.slice (some ⟨g, 0, none⟩) m cap, .int .i64 (lo : Nat), .int .i64 (hi : Nat), .int .i64 (first : Nat), befV P A n ca] W0 fun e w' => e = .returned (.tuple #[]) ∧ Srt base g m cap n w (siftDown (ltB l) hi first lo d) w' := by
  have mixed : Try.prog.follows .mixedOrders = true := by kernel_rfl
  have HB := Lib.hid hB
  have HS := Lib.hid hs
  obtain ⟨R, hR⟩ : ∃ R, siftDown (ltB l) hi first lo d = R := ⟨_, rfl⟩
  rw [hR]
  have HR := Lib.hid hR
  clear hB hs hR
  simp only [befV, jobV]
  go_enter Try.func113, Try.ntmps113
  go_wp2_with fail
  go_loopw [10] (fun vi wr => ∃ (root : Nat) (dj : Array Nat), root ≤ m ∧ vi = .int .i64 (root : Nat) ∧ siftDown (ltB l) hi first root dj = R ∧ Srt base g m cap n w dj wr) (fun vi _ => m + 1 - (intOf vi).toNat)
  case atStart => exact ⟨lo, d, hlo, rfl, HR.out, HS.out⟩
  case round =>
    obtain ⟨root, dj, hrm, rfl, hor, hsr⟩ := hrel
    have HO := Lib.hid hor
    replace HS := Lib.hid hsr
    clear hor hsr HR
    obtain ⟨r2, hr2⟩ : ∃ r, r = 2 * root := ⟨_, rfl⟩
    obtain ⟨c0, hc0⟩ : ∃ r, r = r2 + 1 := ⟨_, rfl⟩
    obtain ⟨c1, hc1⟩ : ∃ r, r = c0 + 1 := ⟨_, rfl⟩
    obtain ⟨i0, hi0⟩ : ∃ r, r = first + c0 := ⟨_, rfl⟩
    obtain ⟨i1, hi1⟩ : ∃ r, r = first + c1 := ⟨_, rfl⟩
    obtain ⟨ir, hir⟩ : ∃ r, r = first + root := ⟨_, rfl⟩
    have hw2 : IntKind.i64.wrap (2 * (root : Int)) = ((r2 : Nat) : Int) := by rw [IntKind.wrap_i64]; omega
    have hw0 : IntKind.i64.wrap ((r2 : Int) + 1) = ((c0 : Nat) : Int) := by rw [IntKind.wrap_i64]; omega
    have hw1 : IntKind.i64.wrap ((c0 : Int) + 1) = ((c1 : Nat) : Int) := by rw [IntKind.wrap_i64]; omega
    have hwi0 : IntKind.i64.wrap ((first : Int) + (c0 : Int)) = ((i0 : Nat) : Int) := by rw [IntKind.wrap_i64]; omega
    have hwi1 : IntKind.i64.wrap ((i0 : Int) + 1) = ((i1 : Nat) : Int) := by rw [IntKind.wrap_i64]; omega
    have hwi2 : IntKind.i64.wrap ((first : Int) + (c1 : Int)) = ((i1 : Nat) : Int) := by rw [IntKind.wrap_i64]; omega
    have hwir : IntKind.i64.wrap ((first : Int) + (root : Int)) = ((ir : Nat) : Int) := by rw [IntKind.wrap_i64]; omega
    have HQ := Lib.hid (show c0 = 2 * root + 1 ∧ c1 = 2 * root + 2 ∧ i0 = first + c0 ∧ i1 = first + c1 ∧ ir = first + root by omega)
    clear hr2 hc0 hc1 hi0 hi1 hir
    by_cases hge : hi ≤ c0
    · have hge' : (hi : Int) ≤ (c0 : Int) := by omega
      have HEND := Lib.hid (show dj = R by rw [← HO.out, sift_end (by have := HQ.out; omega)])
      go_wp2_with fail
      go_end0
      exact ⟨rfl, by rw [← HEND.out]; exact HS.out⟩
    · have hge' : (c0 : Int) < (hi : Int) := by omega
      by_cases hc1 : c1 < hi
      · have hc1' : (c1 : Int) < (hi : Int) := by omega
        have hd0 : decide ((c1 : Int) < (hi : Int)) = true := decide_eq_true hc1'
        go_wp2_with fail
        obtain ⟨x, hx⟩ : ∃ x : Nat, dj[i0]! = x := ⟨_, rfl⟩
        have hxm : i0 < m := by have := HQ.out; omega
        have hxi : (i0 : Int) < (m : Nat) := by omega
        have gx := fun N os => HS.out.cg hxm hx N os
        obtain ⟨y, hy⟩ : ∃ x : Nat, dj[i1]! = x := ⟨_, rfl⟩
        have hym : i1 < m := by have := HQ.out; omega
        have hyi : (i1 : Int) < (m : Nat) := by omega
        have gy := fun N os => HS.out.cg hym hy N os
        have HC := Lib.hid (fun N os => HB.out (grow (wr.drewN N) os) (HS.out.k.no (kp_of_grow ⟨N, os, rfl⟩)) x y (by rw [← hx]; exact HS.out.lt _ hxm) (by rw [← hy]; exact HS.out.lt _ hym))
        obtain ⟨c, hc⟩ : ∃ c, befF l x y = c := ⟨_, rfl⟩
        rw [hc] at HC
        have HLT := Lib.hid (show ltB l dj[i0]! dj[i1]! = decide (c < 0) by rw [hx, hy, ← hc]; rfl)
        clear hx hy hc
        by_cases hneg : c < 0
        · have hdn : decide (c < 0) = true := decide_eq_true hneg
          have HL := Lib.hid (show ltB l dj[i0]! dj[i1]! = true by rw [HLT.out, hdn])
          go_wp2_with fail
          go_quiet_grown (first | (go_at_call 37; refine Calls.grown_of (HC.out _ _)))
          have HS2 := Lib.hid (HS.out.grown ⟨nq, osq, rfl⟩)
          clear HC HLT gx gy
          generalize grow (wr.drewN nq) osq = wq at *
          have HOC := Lib.hid (show (if ltB l dj[ir]! dj[i1]! = true then siftDown (ltB l) hi first c1 (swp dj ir i1) else dj) = R by
            have h := HO.out
            have hl := HL.out
            obtain ⟨e0, e1, e2, e3, e4⟩ := HQ.out
            rw [e2, e3, e0, e1] at hl
            rw [sift_right (by omega) hl] at h
            rw [e3, e4, e1]
            exact h)
          clear HL hdn hneg HO HS
          go_wp2_with fail
          obtain ⟨x, hx⟩ : ∃ x : Nat, dj[ir]! = x := ⟨_, rfl⟩
          have hxm : ir < m := by have := HQ.out; omega
          have hxi : (ir : Int) < (m : Nat) := by omega
          have gx := fun N os => HS2.out.cg hxm hx N os
          obtain ⟨y, hy⟩ : ∃ x : Nat, dj[i1]! = x := ⟨_, rfl⟩
          have hym : i1 < m := by have := HQ.out; omega
          have hyi : (i1 : Int) < (m : Nat) := by omega
          have gy := fun N os => HS2.out.cg hym hy N os
          have HC := Lib.hid (fun N os => HB.out (grow (wq.drewN N) os) (HS2.out.k.no (kp_of_grow ⟨N, os, rfl⟩)) x y (by rw [← hx]; exact HS2.out.lt _ hxm) (by rw [← hy]; exact HS2.out.lt _ hym))
          obtain ⟨c, hc⟩ : ∃ c, befF l x y = c := ⟨_, rfl⟩
          rw [hc] at HC
          have HLT := Lib.hid (show ltB l dj[ir]! dj[i1]! = decide (c < 0) by rw [hx, hy, ← hc]; rfl)
          clear hx hy hc
          by_cases hneg : c < 0
          · have hdn : decide (c < 0) = true := decide_eq_true hneg
            have HL := Lib.hid (show ltB l dj[ir]! dj[i1]! = true by rw [HLT.out, hdn])
            go_wp2_with fail
            go_quiet_grown (first | (go_at_call 37; refine Calls.grown_of (HC.out _ _)))
            have HS3 := Lib.hid (HS2.out.grown ⟨nq, osq, rfl⟩)
            clear HC HLT gx gy
            generalize grow (wq.drewN nq) osq = wq2 at *
            have HOY := Lib.hid (show siftDown (ltB l) hi first c1 (swp dj ir i1) = R by have h := HOC.out; rw [if_pos HL.out] at h; exact h)
            go_wp2_with fail
            obtain ⟨xI, hxI⟩ : ∃ x : Nat, dj[ir]! = x := ⟨_, rfl⟩
            obtain ⟨xJ, hxJ⟩ : ∃ x : Nat, dj[i1]! = x := ⟨_, rfl⟩
            have hI : ir < m := by have := HQ.out; omega
            have hJ : i1 < m := by have := HQ.out; omega
            have hI' : (ir : Int) < (m : Nat) := by omega
            have hJ' : (i1 : Int) < (m : Nat) := by omega
            have HSW := Lib.hid (show wq2.ownsRow base 3 1 (.slice (some ⟨g, 0, none⟩) m cap) m (dj.toList.map natI) ∧ (dj.toList.map natI)[ir]? = some (.int .i64 (xI : Nat)) ∧ (dj.toList.map natI)[i1]? = some (.int .i64 (xJ : Nat)) ∧ ∀ W', W'.ownsRow base 3 1 (.slice (some ⟨g, 0, none⟩) m cap) m (((dj.toList.map natI).set ir (.int .i64 (xJ : Nat))).set i1 (.int .i64 (xI : Nat))) → Kp (One g) wq2 W' → Srt base g m cap n w (swp dj ir i1) W' from ⟨HS3.out.row, HS3.out.at_ hI hxI, HS3.out.at_ hJ hxJ, fun W' ho k => HS3.out.swp hI hJ hxI hxJ ho k⟩)
            have HLN := Lib.hid (show (dj.toList.map natI).length = m by have := HS3.out.row.1; simpa using this)
            clear hxI hxJ
            go_wp2_with fail
            refine wp_region_each (fun ix uR => match ix with | 0 => uR = .slice (some ⟨g, 0, none⟩) m cap | 1 => uR = .int .i64 (first : Nat) | 2 => uR = .int .i64 (root : Nat) | 3 => uR = .int .i64 (ir : Nat) | 4 => uR = .slice (some ⟨g, 0, none⟩) m cap | 5 => uR = .int .i64 (first : Nat) | 6 => uR = .int .i64 (c1 : Nat) | 7 => uR = .int .i64 (i1 : Nat) | 8 => uR = .slice (some ⟨g, 0, none⟩) m cap | 9 => uR = .int .i64 (first : Nat) | 10 => uR = .int .i64 (c1 : Nat) | 11 => uR = .int .i64 (i1 : Nat) | 12 => uR = .pointer (some ⟨g, i1, none⟩) | 13 => uR = .int .i64 (xJ : Nat) | 14 => uR = .slice (some ⟨g, 0, none⟩) m cap | 15 => uR = .int .i64 (first : Nat) | 16 => uR = .int .i64 (root : Nat) | 17 => uR = .int .i64 (ir : Nat) | 18 => uR = .pointer (some ⟨g, ir, none⟩) | 19 => uR = .int .i64 (xI : Nat) | 20 => uR = .pointer (some ⟨g, ir, none⟩) | 22 => uR = .pointer (some ⟨g, i1, none⟩) | _ => True) (Sx wq2 g base 3 m cap (dj.toList.map natI) ir i1 (.int .i64 (xI : Nat)) (.int .i64 (xJ : Nat)) 13 19 21 23) (by kernel_rfl) (by kernel_rfl) (by kernel_rfl) ?_ ?_ ?_
            · exact Sx.start HSW.out.1 HSW.out.2.1 HSW.out.2.2.1
            · refine ⟨?_, ?_, ?_, ?_, ?_, ?_, ?_, ?_, ?_, ?_, ?_, ?_, ?_, ?_, ?_, ?_, ?_, ?_, ?_, ?_, ?_, ?_, ?_, ?_, trivial⟩
              · intro r a w' hf hg hW hr hd K hK
                refine wpOp_of rfl rfl ?_
                have e0 : a.tmps.getD 0 undef = .slice (some ⟨g, 0, none⟩) m cap := hf.evalFree (by kernel_rfl)
                go_simp
                exact hK _ _ rfl (hW.upd 0 _ (by decide) (by decide))
              · intro r a w' hf hg hW hr hd K hK
                refine wpOp_of rfl rfl ?_
                have e0 : a.tmps.getD 3 undef = .int .i64 (first : Nat) := hf.evalFree (by kernel_rfl)
                go_simp
                exact hK _ _ rfl (hW.upd 1 _ (by decide) (by decide))
              · intro r a w' hf hg hW hr hd K hK
                refine wpOp_of rfl rfl ?_
                have e0 : a.tmps.getD 10 undef = .int .i64 (root : Nat) := hf.evalFree (by kernel_rfl)
                go_simp
                exact hK _ _ rfl (hW.upd 2 _ (by decide) (by decide))
              · intro r a w' hf hg hW hr hd K hK
                refine wpOp_of rfl rfl ?_
                refine hf.depE hg hd 1 60 (by kernel_rfl) fun u0 e0 g0 h0 => ?_
                replace g0 : u0 = .int .i64 (first : Nat) := g0
                subst g0
                refine hf.depE hg hd 2 61 (by kernel_rfl) fun u1 e1 g1 h1 => ?_
                replace g1 : u1 = .int .i64 (root : Nat) := g1
                subst g1
                go_simp
                exact hK _ _ rfl (hW.upd 3 _ (by decide) (by decide))
              · intro r a w' hf hg hW hr hd K hK
                refine wpOp_of rfl rfl ?_
                have e0 : a.tmps.getD 0 undef = .slice (some ⟨g, 0, none⟩) m cap := hf.evalFree (by kernel_rfl)
                go_simp
                exact hK _ _ rfl (hW.upd 4 _ (by decide) (by decide))
              · intro r a w' hf hg hW hr hd K hK
                refine wpOp_of rfl rfl ?_
                have e0 : a.tmps.getD 3 undef = .int .i64 (first : Nat) := hf.evalFree (by kernel_rfl)
                go_simp
                exact hK _ _ rfl (hW.upd 5 _ (by decide) (by decide))
              · intro r a w' hf hg hW hr hd K hK
                refine wpOp_of rfl rfl ?_
                have e0 : a.tmps.getD 11 undef = .int .i64 (c1 : Nat) := hf.evalFree (by kernel_rfl)
                go_simp
                exact hK _ _ rfl (hW.upd 6 _ (by decide) (by decide))
              · intro r a w' hf hg hW hr hd K hK
                refine wpOp_of rfl rfl ?_
                refine hf.depE hg hd 5 64 (by kernel_rfl) fun u0 e0 g0 h0 => ?_
                replace g0 : u0 = .int .i64 (first : Nat) := g0
                subst g0
                refine hf.depE hg hd 6 65 (by kernel_rfl) fun u1 e1 g1 h1 => ?_
                replace g1 : u1 = .int .i64 (c1 : Nat) := g1
                subst g1
                go_simp
                exact hK _ _ rfl (hW.upd 7 _ (by decide) (by decide))
              · intro r a w' hf hg hW hr hd K hK
                refine wpOp_of rfl rfl ?_
                have e0 : a.tmps.getD 0 undef = .slice (some ⟨g, 0, none⟩) m cap := hf.evalFree (by kernel_rfl)
                go_simp
                exact hK _ _ rfl (hW.upd 8 _ (by decide) (by decide))
              · intro r a w' hf hg hW hr hd K hK
                refine wpOp_of rfl rfl ?_
                have e0 : a.tmps.getD 3 undef = .int .i64 (first : Nat) := hf.evalFree (by kernel_rfl)
                go_simp
                exact hK _ _ rfl (hW.upd 9 _ (by decide) (by decide))
              · intro r a w' hf hg hW hr hd K hK
                refine wpOp_of rfl rfl ?_
                have e0 : a.tmps.getD 11 undef = .int .i64 (c1 : Nat) := hf.evalFree (by kernel_rfl)
                go_simp
                exact hK _ _ rfl (hW.upd 10 _ (by decide) (by decide))
              · intro r a w' hf hg hW hr hd K hK
                refine wpOp_of rfl rfl ?_
                refine hf.depE hg hd 9 68 (by kernel_rfl) fun u0 e0 g0 h0 => ?_
                replace g0 : u0 = .int .i64 (first : Nat) := g0
                subst g0
                refine hf.depE hg hd 10 69 (by kernel_rfl) fun u1 e1 g1 h1 => ?_
                replace g1 : u1 = .int .i64 (c1 : Nat) := g1
                subst g1
                go_simp
                exact hK _ _ rfl (hW.upd 11 _ (by decide) (by decide))
              · intro r a w' hf hg hW hr hd K hK
                refine wpOp_of rfl rfl ?_
                refine hf.depE hg hd 8 67 (by kernel_rfl) fun u0 e0 g0 h0 => ?_
                replace g0 : u0 = .slice (some ⟨g, 0, none⟩) m cap := g0
                subst g0
                refine hf.depE hg hd 11 70 (by kernel_rfl) fun u1 e1 g1 h1 => ?_
                replace g1 : u1 = .int .i64 (i1 : Nat) := g1
                subst g1
                go_simp
                exact hK _ _ rfl (hW.upd 12 _ (by decide) (by decide))
              · intro r a w' hf hg hW hr hd K hK
                refine wpOp_of rfl rfl ?_
                refine hf.depE hg hd 12 71 (by kernel_rfl) fun u0 e0 g0 h0 => ?_
                replace g0 : u0 = .pointer (some ⟨g, i1, none⟩) := g0
                subst g0
                have z0 := hW.loadj hr
                go_simp
                exact hK _ _ rfl (hW.upd 13 _ (by decide) (by decide))
              · intro r a w' hf hg hW hr hd K hK
                refine wpOp_of rfl rfl ?_
                have e0 : a.tmps.getD 0 undef = .slice (some ⟨g, 0, none⟩) m cap := hf.evalFree (by kernel_rfl)
                go_simp
                exact hK _ _ rfl (hW.upd 14 _ (by decide) (by decide))
              · intro r a w' hf hg hW hr hd K hK
                refine wpOp_of rfl rfl ?_
                have e0 : a.tmps.getD 3 undef = .int .i64 (first : Nat) := hf.evalFree (by kernel_rfl)
                go_simp
                exact hK _ _ rfl (hW.upd 15 _ (by decide) (by decide))
              · intro r a w' hf hg hW hr hd K hK
                refine wpOp_of rfl rfl ?_
                have e0 : a.tmps.getD 10 undef = .int .i64 (root : Nat) := hf.evalFree (by kernel_rfl)
                go_simp
                exact hK _ _ rfl (hW.upd 16 _ (by decide) (by decide))
              · intro r a w' hf hg hW hr hd K hK
                refine wpOp_of rfl rfl ?_
                refine hf.depE hg hd 15 74 (by kernel_rfl) fun u0 e0 g0 h0 => ?_
                replace g0 : u0 = .int .i64 (first : Nat) := g0
                subst g0
                refine hf.depE hg hd 16 75 (by kernel_rfl) fun u1 e1 g1 h1 => ?_
                replace g1 : u1 = .int .i64 (root : Nat) := g1
                subst g1
                go_simp
                exact hK _ _ rfl (hW.upd 17 _ (by decide) (by decide))
              · intro r a w' hf hg hW hr hd K hK
                refine wpOp_of rfl rfl ?_
                refine hf.depE hg hd 14 73 (by kernel_rfl) fun u0 e0 g0 h0 => ?_
                replace g0 : u0 = .slice (some ⟨g, 0, none⟩) m cap := g0
                subst g0
                refine hf.depE hg hd 17 76 (by kernel_rfl) fun u1 e1 g1 h1 => ?_
                replace g1 : u1 = .int .i64 (ir : Nat) := g1
                subst g1
                go_simp
                exact hK _ _ rfl (hW.upd 18 _ (by decide) (by decide))
              · intro r a w' hf hg hW hr hd K hK
                refine wpOp_of rfl rfl ?_
                refine hf.depE hg hd 18 77 (by kernel_rfl) fun u0 e0 g0 h0 => ?_
                replace g0 : u0 = .pointer (some ⟨g, ir, none⟩) := g0
                subst g0
                have z0 := hW.loadi hr
                go_simp
                exact hK _ _ rfl (hW.upd 19 _ (by decide) (by decide))
              · intro r a w' hf hg hW hr hd K hK
                refine wpOp_of rfl rfl ?_
                refine hf.depE hg hd 0 59 (by kernel_rfl) fun u0 e0 g0 h0 => ?_
                replace g0 : u0 = .slice (some ⟨g, 0, none⟩) m cap := g0
                subst g0
                refine hf.depE hg hd 3 62 (by kernel_rfl) fun u1 e1 g1 h1 => ?_
                replace g1 : u1 = .int .i64 (ir : Nat) := g1
                subst g1
                go_simp
                exact hK _ _ rfl (hW.upd 20 _ (by decide) (by decide))
              · intro r a w' hf hg hW hr hd K hK
                refine wpOp_of rfl rfl ?_
                refine hf.depE hg hd 20 79 (by kernel_rfl) fun u0 e0 g0 h0 => ?_
                replace g0 : u0 = .pointer (some ⟨g, ir, none⟩) := g0
                subst g0
                refine hf.depE hg hd 13 72 (by kernel_rfl) fun u1 e1 g1 h1 => ?_
                replace g1 : u1 = .int .i64 (xJ : Nat) := g1
                subst g1
                refine hf.depE hg hd 19 78 (by kernel_rfl) fun uo eo go ho => ?_
                obtain ⟨old, y0⟩ := hW.old (k := ir) hI HLN.out
                have y1 := hW.free ir
                go_simp
                exact hK undef _ trivial (hW.sta hr (by rw [ho]; simp) (by decide) undef)
              · intro r a w' hf hg hW hr hd K hK
                refine wpOp_of rfl rfl ?_
                refine hf.depE hg hd 4 63 (by kernel_rfl) fun u0 e0 g0 h0 => ?_
                replace g0 : u0 = .slice (some ⟨g, 0, none⟩) m cap := g0
                subst g0
                refine hf.depE hg hd 7 66 (by kernel_rfl) fun u1 e1 g1 h1 => ?_
                replace g1 : u1 = .int .i64 (i1 : Nat) := g1
                subst g1
                go_simp
                exact hK _ _ rfl (hW.upd 22 _ (by decide) (by decide))
              · intro r a w' hf hg hW hr hd K hK
                refine wpOp_of rfl rfl ?_
                refine hf.depE hg hd 22 80 (by kernel_rfl) fun u0 e0 g0 h0 => ?_
                replace g0 : u0 = .pointer (some ⟨g, i1, none⟩) := g0
                subst g0
                refine hf.depE hg hd 19 78 (by kernel_rfl) fun u1 e1 g1 h1 => ?_
                replace g1 : u1 = .int .i64 (xI : Nat) := g1
                subst g1
                refine hf.depE hg hd 13 72 (by kernel_rfl) fun uo eo go ho => ?_
                obtain ⟨old, y0⟩ := hW.old (k := i1) hJ HLN.out
                have y1 := hW.free i1
                go_simp
                exact hK undef _ trivial (hW.stb hr (by rw [ho]; simp) (by decide) undef)
            intro r' w9 hg hW hr'
            simp only [List.length_cons, List.length_nil, Nat.reduceAdd, List.range_succ, List.range_zero, List.nil_append, List.cons_append, List.map_cons, List.map_nil, putAll, Act.put, List.setIfInBounds_toArray, List.set_cons_succ, List.set_cons_zero]
            have ho9 := hW.fin (hr' 21 (by decide)) (hr' 23 (by decide))
            have HS9 := Lib.hid (HSW.out.2.2.2 _ ho9 hW.kp)
            clear hg hW hr' ho9 HSW HLN hI hJ hI' hJ'
            go_wp2_with fail
            go_roundw
            case rel => exact ⟨c1, swp dj ir i1, by omega, by go_num, HOY.out, HS9.out⟩
            case measure => have := HQ.out; simp [intOf]; omega
          · have hdn : decide (c < 0) = false := decide_eq_false hneg
            have HL := Lib.hid (show ltB l dj[ir]! dj[i1]! = false by rw [HLT.out, hdn])
            go_wp2_with fail
            go_quiet_grown (first | (go_at_call 37; refine Calls.grown_of (HC.out _ _)))
            have HS3 := Lib.hid (HS2.out.grown ⟨nq, osq, rfl⟩)
            clear HC HLT gx gy
            generalize grow (wq.drewN nq) osq = wq2 at *
            have HON := Lib.hid (show dj = R by have h := HOC.out; rw [if_neg (by rw [HL.out]; decide)] at h; exact h)
            go_wp2_with fail
            first | go_end0 | ((try simp only [Exit.inBlock, Exit.then]); refine bodyPost_ret (results_none rfl _ _ _) rfl ?_)
            exact ⟨rfl, by rw [← HON.out]; exact HS3.out⟩
        · have hdn : decide (c < 0) = false := decide_eq_false hneg
          have HL := Lib.hid (show ltB l dj[i0]! dj[i1]! = false by rw [HLT.out, hdn])
          go_wp2_with fail
          go_quiet_grown (first | (go_at_call 37; refine Calls.grown_of (HC.out _ _)))
          have HS2 := Lib.hid (HS.out.grown ⟨nq, osq, rfl⟩)
          clear HC HLT gx gy
          generalize grow (wr.drewN nq) osq = wq at *
          have HOC := Lib.hid (show (if ltB l dj[ir]! dj[i0]! = true then siftDown (ltB l) hi first c0 (swp dj ir i0) else dj) = R by
            have h := HO.out
            have hl := HL.out
            obtain ⟨e0, e1, e2, e3, e4⟩ := HQ.out
            rw [e2, e3, e0, e1] at hl
            rw [sift_left (by omega) (fun _ => hl)] at h
            rw [e2, e4, e0]
            exact h)
          clear HL hdn hneg HO HS
          go_wp2_with fail
          obtain ⟨x, hx⟩ : ∃ x : Nat, dj[ir]! = x := ⟨_, rfl⟩
          have hxm : ir < m := by have := HQ.out; omega
          have hxi : (ir : Int) < (m : Nat) := by omega
          have gx := fun N os => HS2.out.cg hxm hx N os
          obtain ⟨y, hy⟩ : ∃ x : Nat, dj[i0]! = x := ⟨_, rfl⟩
          have hym : i0 < m := by have := HQ.out; omega
          have hyi : (i0 : Int) < (m : Nat) := by omega
          have gy := fun N os => HS2.out.cg hym hy N os
          have HC := Lib.hid (fun N os => HB.out (grow (wq.drewN N) os) (HS2.out.k.no (kp_of_grow ⟨N, os, rfl⟩)) x y (by rw [← hx]; exact HS2.out.lt _ hxm) (by rw [← hy]; exact HS2.out.lt _ hym))
          obtain ⟨c, hc⟩ : ∃ c, befF l x y = c := ⟨_, rfl⟩
          rw [hc] at HC
          have HLT := Lib.hid (show ltB l dj[ir]! dj[i0]! = decide (c < 0) by rw [hx, hy, ← hc]; rfl)
          clear hx hy hc
          by_cases hneg : c < 0
          · have hdn : decide (c < 0) = true := decide_eq_true hneg
            have HL := Lib.hid (show ltB l dj[ir]! dj[i0]! = true by rw [HLT.out, hdn])
            go_wp2_with fail
            go_quiet_grown (first | (go_at_call 37; refine Calls.grown_of (HC.out _ _)))
            have HS3 := Lib.hid (HS2.out.grown ⟨nq, osq, rfl⟩)
            clear HC HLT gx gy
            generalize grow (wq.drewN nq) osq = wq2 at *
            have HOY := Lib.hid (show siftDown (ltB l) hi first c0 (swp dj ir i0) = R by have h := HOC.out; rw [if_pos HL.out] at h; exact h)
            go_wp2_with fail
            obtain ⟨xI, hxI⟩ : ∃ x : Nat, dj[ir]! = x := ⟨_, rfl⟩
            obtain ⟨xJ, hxJ⟩ : ∃ x : Nat, dj[i0]! = x := ⟨_, rfl⟩
            have hI : ir < m := by have := HQ.out; omega
            have hJ : i0 < m := by have := HQ.out; omega
            have hI' : (ir : Int) < (m : Nat) := by omega
            have hJ' : (i0 : Int) < (m : Nat) := by omega
            have HSW := Lib.hid (show wq2.ownsRow base 3 1 (.slice (some ⟨g, 0, none⟩) m cap) m (dj.toList.map natI) ∧ (dj.toList.map natI)[ir]? = some (.int .i64 (xI : Nat)) ∧ (dj.toList.map natI)[i0]? = some (.int .i64 (xJ : Nat)) ∧ ∀ W', W'.ownsRow base 3 1 (.slice (some ⟨g, 0, none⟩) m cap) m (((dj.toList.map natI).set ir (.int .i64 (xJ : Nat))).set i0 (.int .i64 (xI : Nat))) → Kp (One g) wq2 W' → Srt base g m cap n w (swp dj ir i0) W' from ⟨HS3.out.row, HS3.out.at_ hI hxI, HS3.out.at_ hJ hxJ, fun W' ho k => HS3.out.swp hI hJ hxI hxJ ho k⟩)
            have HLN := Lib.hid (show (dj.toList.map natI).length = m by have := HS3.out.row.1; simpa using this)
            clear hxI hxJ
            go_wp2_with fail
            refine wp_region_each (fun ix uR => match ix with | 0 => uR = .slice (some ⟨g, 0, none⟩) m cap | 1 => uR = .int .i64 (first : Nat) | 2 => uR = .int .i64 (root : Nat) | 3 => uR = .int .i64 (ir : Nat) | 4 => uR = .slice (some ⟨g, 0, none⟩) m cap | 5 => uR = .int .i64 (first : Nat) | 6 => uR = .int .i64 (c0 : Nat) | 7 => uR = .int .i64 (i0 : Nat) | 8 => uR = .slice (some ⟨g, 0, none⟩) m cap | 9 => uR = .int .i64 (first : Nat) | 10 => uR = .int .i64 (c0 : Nat) | 11 => uR = .int .i64 (i0 : Nat) | 12 => uR = .pointer (some ⟨g, i0, none⟩) | 13 => uR = .int .i64 (xJ : Nat) | 14 => uR = .slice (some ⟨g, 0, none⟩) m cap | 15 => uR = .int .i64 (first : Nat) | 16 => uR = .int .i64 (root : Nat) | 17 => uR = .int .i64 (ir : Nat) | 18 => uR = .pointer (some ⟨g, ir, none⟩) | 19 => uR = .int .i64 (xI : Nat) | 20 => uR = .pointer (some ⟨g, ir, none⟩) | 22 => uR = .pointer (some ⟨g, i0, none⟩) | _ => True) (Sx wq2 g base 3 m cap (dj.toList.map natI) ir i0 (.int .i64 (xI : Nat)) (.int .i64 (xJ : Nat)) 13 19 21 23) (by kernel_rfl) (by kernel_rfl) (by kernel_rfl) ?_ ?_ ?_
            · exact Sx.start HSW.out.1 HSW.out.2.1 HSW.out.2.2.1
            · refine ⟨?_, ?_, ?_, ?_, ?_, ?_, ?_, ?_, ?_, ?_, ?_, ?_, ?_, ?_, ?_, ?_, ?_, ?_, ?_, ?_, ?_, ?_, ?_, ?_, trivial⟩
              · intro r a w' hf hg hW hr hd K hK
                refine wpOp_of rfl rfl ?_
                have e0 : a.tmps.getD 0 undef = .slice (some ⟨g, 0, none⟩) m cap := hf.evalFree (by kernel_rfl)
                go_simp
                exact hK _ _ rfl (hW.upd 0 _ (by decide) (by decide))
              · intro r a w' hf hg hW hr hd K hK
                refine wpOp_of rfl rfl ?_
                have e0 : a.tmps.getD 3 undef = .int .i64 (first : Nat) := hf.evalFree (by kernel_rfl)
                go_simp
                exact hK _ _ rfl (hW.upd 1 _ (by decide) (by decide))
              · intro r a w' hf hg hW hr hd K hK
                refine wpOp_of rfl rfl ?_
                have e0 : a.tmps.getD 10 undef = .int .i64 (root : Nat) := hf.evalFree (by kernel_rfl)
                go_simp
                exact hK _ _ rfl (hW.upd 2 _ (by decide) (by decide))
              · intro r a w' hf hg hW hr hd K hK
                refine wpOp_of rfl rfl ?_
                refine hf.depE hg hd 1 60 (by kernel_rfl) fun u0 e0 g0 h0 => ?_
                replace g0 : u0 = .int .i64 (first : Nat) := g0
                subst g0
                refine hf.depE hg hd 2 61 (by kernel_rfl) fun u1 e1 g1 h1 => ?_
                replace g1 : u1 = .int .i64 (root : Nat) := g1
                subst g1
                go_simp
                exact hK _ _ rfl (hW.upd 3 _ (by decide) (by decide))
              · intro r a w' hf hg hW hr hd K hK
                refine wpOp_of rfl rfl ?_
                have e0 : a.tmps.getD 0 undef = .slice (some ⟨g, 0, none⟩) m cap := hf.evalFree (by kernel_rfl)
                go_simp
                exact hK _ _ rfl (hW.upd 4 _ (by decide) (by decide))
              · intro r a w' hf hg hW hr hd K hK
                refine wpOp_of rfl rfl ?_
                have e0 : a.tmps.getD 3 undef = .int .i64 (first : Nat) := hf.evalFree (by kernel_rfl)
                go_simp
                exact hK _ _ rfl (hW.upd 5 _ (by decide) (by decide))
              · intro r a w' hf hg hW hr hd K hK
                refine wpOp_of rfl rfl ?_
                have e0 : a.tmps.getD 11 undef = .int .i64 (c0 : Nat) := hf.evalFree (by kernel_rfl)
                go_simp
                exact hK _ _ rfl (hW.upd 6 _ (by decide) (by decide))
              · intro r a w' hf hg hW hr hd K hK
                refine wpOp_of rfl rfl ?_
                refine hf.depE hg hd 5 64 (by kernel_rfl) fun u0 e0 g0 h0 => ?_
                replace g0 : u0 = .int .i64 (first : Nat) := g0
                subst g0
                refine hf.depE hg hd 6 65 (by kernel_rfl) fun u1 e1 g1 h1 => ?_
                replace g1 : u1 = .int .i64 (c0 : Nat) := g1
                subst g1
                go_simp
                exact hK _ _ rfl (hW.upd 7 _ (by decide) (by decide))
              · intro r a w' hf hg hW hr hd K hK
                refine wpOp_of rfl rfl ?_
                have e0 : a.tmps.getD 0 undef = .slice (some ⟨g, 0, none⟩) m cap := hf.evalFree (by kernel_rfl)
                go_simp
                exact hK _ _ rfl (hW.upd 8 _ (by decide) (by decide))
              · intro r a w' hf hg hW hr hd K hK
                refine wpOp_of rfl rfl ?_
                have e0 : a.tmps.getD 3 undef = .int .i64 (first : Nat) := hf.evalFree (by kernel_rfl)
                go_simp
                exact hK _ _ rfl (hW.upd 9 _ (by decide) (by decide))
              · intro r a w' hf hg hW hr hd K hK
                refine wpOp_of rfl rfl ?_
                have e0 : a.tmps.getD 11 undef = .int .i64 (c0 : Nat) := hf.evalFree (by kernel_rfl)
                go_simp
                exact hK _ _ rfl (hW.upd 10 _ (by decide) (by decide))
              · intro r a w' hf hg hW hr hd K hK
                refine wpOp_of rfl rfl ?_
                refine hf.depE hg hd 9 68 (by kernel_rfl) fun u0 e0 g0 h0 => ?_
                replace g0 : u0 = .int .i64 (first : Nat) := g0
                subst g0
                refine hf.depE hg hd 10 69 (by kernel_rfl) fun u1 e1 g1 h1 => ?_
                replace g1 : u1 = .int .i64 (c0 : Nat) := g1
                subst g1
                go_simp
                exact hK _ _ rfl (hW.upd 11 _ (by decide) (by decide))
              · intro r a w' hf hg hW hr hd K hK
                refine wpOp_of rfl rfl ?_
                refine hf.depE hg hd 8 67 (by kernel_rfl) fun u0 e0 g0 h0 => ?_
                replace g0 : u0 = .slice (some ⟨g, 0, none⟩) m cap := g0
                subst g0
                refine hf.depE hg hd 11 70 (by kernel_rfl) fun u1 e1 g1 h1 => ?_
                replace g1 : u1 = .int .i64 (i0 : Nat) := g1
                subst g1
                go_simp
                exact hK _ _ rfl (hW.upd 12 _ (by decide) (by decide))
              · intro r a w' hf hg hW hr hd K hK
                refine wpOp_of rfl rfl ?_
                refine hf.depE hg hd 12 71 (by kernel_rfl) fun u0 e0 g0 h0 => ?_
                replace g0 : u0 = .pointer (some ⟨g, i0, none⟩) := g0
                subst g0
                have z0 := hW.loadj hr
                go_simp
                exact hK _ _ rfl (hW.upd 13 _ (by decide) (by decide))
              · intro r a w' hf hg hW hr hd K hK
                refine wpOp_of rfl rfl ?_
                have e0 : a.tmps.getD 0 undef = .slice (some ⟨g, 0, none⟩) m cap := hf.evalFree (by kernel_rfl)
                go_simp
                exact hK _ _ rfl (hW.upd 14 _ (by decide) (by decide))
              · intro r a w' hf hg hW hr hd K hK
                refine wpOp_of rfl rfl ?_
                have e0 : a.tmps.getD 3 undef = .int .i64 (first : Nat) := hf.evalFree (by kernel_rfl)
                go_simp
                exact hK _ _ rfl (hW.upd 15 _ (by decide) (by decide))
              · intro r a w' hf hg hW hr hd K hK
                refine wpOp_of rfl rfl ?_
                have e0 : a.tmps.getD 10 undef = .int .i64 (root : Nat) := hf.evalFree (by kernel_rfl)
                go_simp
                exact hK _ _ rfl (hW.upd 16 _ (by decide) (by decide))
              · intro r a w' hf hg hW hr hd K hK
                refine wpOp_of rfl rfl ?_
                refine hf.depE hg hd 15 74 (by kernel_rfl) fun u0 e0 g0 h0 => ?_
                replace g0 : u0 = .int .i64 (first : Nat) := g0
                subst g0
                refine hf.depE hg hd 16 75 (by kernel_rfl) fun u1 e1 g1 h1 => ?_
                replace g1 : u1 = .int .i64 (root : Nat) := g1
                subst g1
                go_simp
                exact hK _ _ rfl (hW.upd 17 _ (by decide) (by decide))
              · intro r a w' hf hg hW hr hd K hK
                refine wpOp_of rfl rfl ?_
                refine hf.depE hg hd 14 73 (by kernel_rfl) fun u0 e0 g0 h0 => ?_
                replace g0 : u0 = .slice (some ⟨g, 0, none⟩) m cap := g0
                subst g0
                refine hf.depE hg hd 17 76 (by kernel_rfl) fun u1 e1 g1 h1 => ?_
                replace g1 : u1 = .int .i64 (ir : Nat) := g1
                subst g1
                go_simp
                exact hK _ _ rfl (hW.upd 18 _ (by decide) (by decide))
              · intro r a w' hf hg hW hr hd K hK
                refine wpOp_of rfl rfl ?_
                refine hf.depE hg hd 18 77 (by kernel_rfl) fun u0 e0 g0 h0 => ?_
                replace g0 : u0 = .pointer (some ⟨g, ir, none⟩) := g0
                subst g0
                have z0 := hW.loadi hr
                go_simp
                exact hK _ _ rfl (hW.upd 19 _ (by decide) (by decide))
              · intro r a w' hf hg hW hr hd K hK
                refine wpOp_of rfl rfl ?_
                refine hf.depE hg hd 0 59 (by kernel_rfl) fun u0 e0 g0 h0 => ?_
                replace g0 : u0 = .slice (some ⟨g, 0, none⟩) m cap := g0
                subst g0
                refine hf.depE hg hd 3 62 (by kernel_rfl) fun u1 e1 g1 h1 => ?_
                replace g1 : u1 = .int .i64 (ir : Nat) := g1
                subst g1
                go_simp
                exact hK _ _ rfl (hW.upd 20 _ (by decide) (by decide))
              · intro r a w' hf hg hW hr hd K hK
                refine wpOp_of rfl rfl ?_
                refine hf.depE hg hd 20 79 (by kernel_rfl) fun u0 e0 g0 h0 => ?_
                replace g0 : u0 = .pointer (some ⟨g, ir, none⟩) := g0
                subst g0
                refine hf.depE hg hd 13 72 (by kernel_rfl) fun u1 e1 g1 h1 => ?_
                replace g1 : u1 = .int .i64 (xJ : Nat) := g1
                subst g1
                refine hf.depE hg hd 19 78 (by kernel_rfl) fun uo eo go ho => ?_
                obtain ⟨old, y0⟩ := hW.old (k := ir) hI HLN.out
                have y1 := hW.free ir
                go_simp
                exact hK undef _ trivial (hW.sta hr (by rw [ho]; simp) (by decide) undef)
              · intro r a w' hf hg hW hr hd K hK
                refine wpOp_of rfl rfl ?_
                refine hf.depE hg hd 4 63 (by kernel_rfl) fun u0 e0 g0 h0 => ?_
                replace g0 : u0 = .slice (some ⟨g, 0, none⟩) m cap := g0
                subst g0
                refine hf.depE hg hd 7 66 (by kernel_rfl) fun u1 e1 g1 h1 => ?_
                replace g1 : u1 = .int .i64 (i0 : Nat) := g1
                subst g1
                go_simp
                exact hK _ _ rfl (hW.upd 22 _ (by decide) (by decide))
              · intro r a w' hf hg hW hr hd K hK
                refine wpOp_of rfl rfl ?_
                refine hf.depE hg hd 22 80 (by kernel_rfl) fun u0 e0 g0 h0 => ?_
                replace g0 : u0 = .pointer (some ⟨g, i0, none⟩) := g0
                subst g0
                refine hf.depE hg hd 19 78 (by kernel_rfl) fun u1 e1 g1 h1 => ?_
                replace g1 : u1 = .int .i64 (xI : Nat) := g1
                subst g1
                refine hf.depE hg hd 13 72 (by kernel_rfl) fun uo eo go ho => ?_
                obtain ⟨old, y0⟩ := hW.old (k := i0) hJ HLN.out
                have y1 := hW.free i0
                go_simp
                exact hK undef _ trivial (hW.stb hr (by rw [ho]; simp) (by decide) undef)
            intro r' w9 hg hW hr'
            simp only [List.length_cons, List.length_nil, Nat.reduceAdd, List.range_succ, List.range_zero, List.nil_append, List.cons_append, List.map_cons, List.map_nil, putAll, Act.put, List.setIfInBounds_toArray, List.set_cons_succ, List.set_cons_zero]
            have ho9 := hW.fin (hr' 21 (by decide)) (hr' 23 (by decide))
            have HS9 := Lib.hid (HSW.out.2.2.2 _ ho9 hW.kp)
            clear hg hW hr' ho9 HSW HLN hI hJ hI' hJ'
            go_wp2_with fail
            go_roundw
            case rel => exact ⟨c0, swp dj ir i0, by omega, by go_num, HOY.out, HS9.out⟩
            case measure => have := HQ.out; simp [intOf]; omega
          · have hdn : decide (c < 0) = false := decide_eq_false hneg
            have HL := Lib.hid (show ltB l dj[ir]! dj[i0]! = false by rw [HLT.out, hdn])
            go_wp2_with fail
            go_quiet_grown (first | (go_at_call 37; refine Calls.grown_of (HC.out _ _)))
            have HS3 := Lib.hid (HS2.out.grown ⟨nq, osq, rfl⟩)
            clear HC HLT gx gy
            generalize grow (wq.drewN nq) osq = wq2 at *
            have HON := Lib.hid (show dj = R by have h := HOC.out; rw [if_neg (by rw [HL.out]; decide)] at h; exact h)
            go_wp2_with fail
            first | go_end0 | ((try simp only [Exit.inBlock, Exit.then]); refine bodyPost_ret (results_none rfl _ _ _) rfl ?_)
            exact ⟨rfl, by rw [← HON.out]; exact HS3.out⟩
      · have hc1' : (hi : Int) ≤ (c1 : Int) := by omega
        have hd0 : decide ((c1 : Int) < (hi : Int)) = false := decide_eq_false (by omega)
        have HOC := Lib.hid (show (if ltB l dj[ir]! dj[i0]! = true then siftDown (ltB l) hi first c0 (swp dj ir i0) else dj) = R by
          have h := HO.out
          obtain ⟨e0, e1, e2, e3, e4⟩ := HQ.out
          rw [sift_left (by omega) (fun h => by omega)] at h
          rw [e2, e4, e0]
          exact h)
        go_wp2_with fail
        go_quiet (fail)
        replace HS := Lib.hid (HS.out.no (Kp.drewN No wr nq))
        generalize wr.drewN nq = wr1 at *
        go_wp2_with fail
        obtain ⟨x, hx⟩ : ∃ x : Nat, dj[ir]! = x := ⟨_, rfl⟩
        have hxm : ir < m := by have := HQ.out; omega
        have hxi : (ir : Int) < (m : Nat) := by omega
        have gx := fun N os => HS.out.cg hxm hx N os
        obtain ⟨y, hy⟩ : ∃ x : Nat, dj[i0]! = x := ⟨_, rfl⟩
        have hym : i0 < m := by have := HQ.out; omega
        have hyi : (i0 : Int) < (m : Nat) := by omega
        have gy := fun N os => HS.out.cg hym hy N os
        have HC := Lib.hid (fun N os => HB.out (grow (wr1.drewN N) os) (HS.out.k.no (kp_of_grow ⟨N, os, rfl⟩)) x y (by rw [← hx]; exact HS.out.lt _ hxm) (by rw [← hy]; exact HS.out.lt _ hym))
        obtain ⟨c, hc⟩ : ∃ c, befF l x y = c := ⟨_, rfl⟩
        rw [hc] at HC
        have HLT := Lib.hid (show ltB l dj[ir]! dj[i0]! = decide (c < 0) by rw [hx, hy, ← hc]; rfl)
        clear hx hy hc
        by_cases hneg : c < 0
        · have hdn : decide (c < 0) = true := decide_eq_true hneg
          have HL := Lib.hid (show ltB l dj[ir]! dj[i0]! = true by rw [HLT.out, hdn])
          go_wp2_with fail
          go_quiet_grown (first | (go_at_call 37; refine Calls.grown_of (HC.out _ _)))
          have HS3 := Lib.hid (HS.out.grown ⟨nq, osq, rfl⟩)
          clear HC HLT gx gy
          generalize grow (wr1.drewN nq) osq = wq2 at *
          have HOY := Lib.hid (show siftDown (ltB l) hi first c0 (swp dj ir i0) = R by have h := HOC.out; rw [if_pos HL.out] at h; exact h)
          go_wp2_with fail
          obtain ⟨xI, hxI⟩ : ∃ x : Nat, dj[ir]! = x := ⟨_, rfl⟩
          obtain ⟨xJ, hxJ⟩ : ∃ x : Nat, dj[i0]! = x := ⟨_, rfl⟩
          have hI : ir < m := by have := HQ.out; omega
          have hJ : i0 < m := by have := HQ.out; omega
          have hI' : (ir : Int) < (m : Nat) := by omega
          have hJ' : (i0 : Int) < (m : Nat) := by omega
          have HSW := Lib.hid (show wq2.ownsRow base 3 1 (.slice (some ⟨g, 0, none⟩) m cap) m (dj.toList.map natI) ∧ (dj.toList.map natI)[ir]? = some (.int .i64 (xI : Nat)) ∧ (dj.toList.map natI)[i0]? = some (.int .i64 (xJ : Nat)) ∧ ∀ W', W'.ownsRow base 3 1 (.slice (some ⟨g, 0, none⟩) m cap) m (((dj.toList.map natI).set ir (.int .i64 (xJ : Nat))).set i0 (.int .i64 (xI : Nat))) → Kp (One g) wq2 W' → Srt base g m cap n w (swp dj ir i0) W' from ⟨HS3.out.row, HS3.out.at_ hI hxI, HS3.out.at_ hJ hxJ, fun W' ho k => HS3.out.swp hI hJ hxI hxJ ho k⟩)
          have HLN := Lib.hid (show (dj.toList.map natI).length = m by have := HS3.out.row.1; simpa using this)
          clear hxI hxJ
          go_wp2_with fail
          refine wp_region_each (fun ix uR => match ix with | 0 => uR = .slice (some ⟨g, 0, none⟩) m cap | 1 => uR = .int .i64 (first : Nat) | 2 => uR = .int .i64 (root : Nat) | 3 => uR = .int .i64 (ir : Nat) | 4 => uR = .slice (some ⟨g, 0, none⟩) m cap | 5 => uR = .int .i64 (first : Nat) | 6 => uR = .int .i64 (c0 : Nat) | 7 => uR = .int .i64 (i0 : Nat) | 8 => uR = .slice (some ⟨g, 0, none⟩) m cap | 9 => uR = .int .i64 (first : Nat) | 10 => uR = .int .i64 (c0 : Nat) | 11 => uR = .int .i64 (i0 : Nat) | 12 => uR = .pointer (some ⟨g, i0, none⟩) | 13 => uR = .int .i64 (xJ : Nat) | 14 => uR = .slice (some ⟨g, 0, none⟩) m cap | 15 => uR = .int .i64 (first : Nat) | 16 => uR = .int .i64 (root : Nat) | 17 => uR = .int .i64 (ir : Nat) | 18 => uR = .pointer (some ⟨g, ir, none⟩) | 19 => uR = .int .i64 (xI : Nat) | 20 => uR = .pointer (some ⟨g, ir, none⟩) | 22 => uR = .pointer (some ⟨g, i0, none⟩) | _ => True) (Sx wq2 g base 3 m cap (dj.toList.map natI) ir i0 (.int .i64 (xI : Nat)) (.int .i64 (xJ : Nat)) 13 19 21 23) (by kernel_rfl) (by kernel_rfl) (by kernel_rfl) ?_ ?_ ?_
          · exact Sx.start HSW.out.1 HSW.out.2.1 HSW.out.2.2.1
          · refine ⟨?_, ?_, ?_, ?_, ?_, ?_, ?_, ?_, ?_, ?_, ?_, ?_, ?_, ?_, ?_, ?_, ?_, ?_, ?_, ?_, ?_, ?_, ?_, ?_, trivial⟩
            · intro r a w' hf hg hW hr hd K hK
              refine wpOp_of rfl rfl ?_
              have e0 : a.tmps.getD 0 undef = .slice (some ⟨g, 0, none⟩) m cap := hf.evalFree (by kernel_rfl)
              go_simp
              exact hK _ _ rfl (hW.upd 0 _ (by decide) (by decide))
            · intro r a w' hf hg hW hr hd K hK
              refine wpOp_of rfl rfl ?_
              have e0 : a.tmps.getD 3 undef = .int .i64 (first : Nat) := hf.evalFree (by kernel_rfl)
              go_simp
              exact hK _ _ rfl (hW.upd 1 _ (by decide) (by decide))
            · intro r a w' hf hg hW hr hd K hK
              refine wpOp_of rfl rfl ?_
              have e0 : a.tmps.getD 10 undef = .int .i64 (root : Nat) := hf.evalFree (by kernel_rfl)
              go_simp
              exact hK _ _ rfl (hW.upd 2 _ (by decide) (by decide))
            · intro r a w' hf hg hW hr hd K hK
              refine wpOp_of rfl rfl ?_
              refine hf.depE hg hd 1 60 (by kernel_rfl) fun u0 e0 g0 h0 => ?_
              replace g0 : u0 = .int .i64 (first : Nat) := g0
              subst g0
              refine hf.depE hg hd 2 61 (by kernel_rfl) fun u1 e1 g1 h1 => ?_
              replace g1 : u1 = .int .i64 (root : Nat) := g1
              subst g1
              go_simp
              exact hK _ _ rfl (hW.upd 3 _ (by decide) (by decide))
            · intro r a w' hf hg hW hr hd K hK
              refine wpOp_of rfl rfl ?_
              have e0 : a.tmps.getD 0 undef = .slice (some ⟨g, 0, none⟩) m cap := hf.evalFree (by kernel_rfl)
              go_simp
              exact hK _ _ rfl (hW.upd 4 _ (by decide) (by decide))
            · intro r a w' hf hg hW hr hd K hK
              refine wpOp_of rfl rfl ?_
              have e0 : a.tmps.getD 3 undef = .int .i64 (first : Nat) := hf.evalFree (by kernel_rfl)
              go_simp
              exact hK _ _ rfl (hW.upd 5 _ (by decide) (by decide))
            · intro r a w' hf hg hW hr hd K hK
              refine wpOp_of rfl rfl ?_
              have e0 : a.tmps.getD 11 undef = .int .i64 (c0 : Nat) := hf.evalFree (by kernel_rfl)
              go_simp
              exact hK _ _ rfl (hW.upd 6 _ (by decide) (by decide))
            · intro r a w' hf hg hW hr hd K hK
              refine wpOp_of rfl rfl ?_
              refine hf.depE hg hd 5 64 (by kernel_rfl) fun u0 e0 g0 h0 => ?_
              replace g0 : u0 = .int .i64 (first : Nat) := g0
              subst g0
              refine hf.depE hg hd 6 65 (by kernel_rfl) fun u1 e1 g1 h1 => ?_
              replace g1 : u1 = .int .i64 (c0 : Nat) := g1
              subst g1
              go_simp
              exact hK _ _ rfl (hW.upd 7 _ (by decide) (by decide))
            · intro r a w' hf hg hW hr hd K hK
              refine wpOp_of rfl rfl ?_
              have e0 : a.tmps.getD 0 undef = .slice (some ⟨g, 0, none⟩) m cap := hf.evalFree (by kernel_rfl)
              go_simp
              exact hK _ _ rfl (hW.upd 8 _ (by decide) (by decide))
            · intro r a w' hf hg hW hr hd K hK
              refine wpOp_of rfl rfl ?_
              have e0 : a.tmps.getD 3 undef = .int .i64 (first : Nat) := hf.evalFree (by kernel_rfl)
              go_simp
              exact hK _ _ rfl (hW.upd 9 _ (by decide) (by decide))
            · intro r a w' hf hg hW hr hd K hK
              refine wpOp_of rfl rfl ?_
              have e0 : a.tmps.getD 11 undef = .int .i64 (c0 : Nat) := hf.evalFree (by kernel_rfl)
              go_simp
              exact hK _ _ rfl (hW.upd 10 _ (by decide) (by decide))
            · intro r a w' hf hg hW hr hd K hK
              refine wpOp_of rfl rfl ?_
              refine hf.depE hg hd 9 68 (by kernel_rfl) fun u0 e0 g0 h0 => ?_
              replace g0 : u0 = .int .i64 (first : Nat) := g0
              subst g0
              refine hf.depE hg hd 10 69 (by kernel_rfl) fun u1 e1 g1 h1 => ?_
              replace g1 : u1 = .int .i64 (c0 : Nat) := g1
              subst g1
              go_simp
              exact hK _ _ rfl (hW.upd 11 _ (by decide) (by decide))
            · intro r a w' hf hg hW hr hd K hK
              refine wpOp_of rfl rfl ?_
              refine hf.depE hg hd 8 67 (by kernel_rfl) fun u0 e0 g0 h0 => ?_
              replace g0 : u0 = .slice (some ⟨g, 0, none⟩) m cap := g0
              subst g0
              refine hf.depE hg hd 11 70 (by kernel_rfl) fun u1 e1 g1 h1 => ?_
              replace g1 : u1 = .int .i64 (i0 : Nat) := g1
              subst g1
              go_simp
              exact hK _ _ rfl (hW.upd 12 _ (by decide) (by decide))
            · intro r a w' hf hg hW hr hd K hK
              refine wpOp_of rfl rfl ?_
              refine hf.depE hg hd 12 71 (by kernel_rfl) fun u0 e0 g0 h0 => ?_
              replace g0 : u0 = .pointer (some ⟨g, i0, none⟩) := g0
              subst g0
              have z0 := hW.loadj hr
              go_simp
              exact hK _ _ rfl (hW.upd 13 _ (by decide) (by decide))
            · intro r a w' hf hg hW hr hd K hK
              refine wpOp_of rfl rfl ?_
              have e0 : a.tmps.getD 0 undef = .slice (some ⟨g, 0, none⟩) m cap := hf.evalFree (by kernel_rfl)
              go_simp
              exact hK _ _ rfl (hW.upd 14 _ (by decide) (by decide))
            · intro r a w' hf hg hW hr hd K hK
              refine wpOp_of rfl rfl ?_
              have e0 : a.tmps.getD 3 undef = .int .i64 (first : Nat) := hf.evalFree (by kernel_rfl)
              go_simp
              exact hK _ _ rfl (hW.upd 15 _ (by decide) (by decide))
            · intro r a w' hf hg hW hr hd K hK
              refine wpOp_of rfl rfl ?_
              have e0 : a.tmps.getD 10 undef = .int .i64 (root : Nat) := hf.evalFree (by kernel_rfl)
              go_simp
              exact hK _ _ rfl (hW.upd 16 _ (by decide) (by decide))
            · intro r a w' hf hg hW hr hd K hK
              refine wpOp_of rfl rfl ?_
              refine hf.depE hg hd 15 74 (by kernel_rfl) fun u0 e0 g0 h0 => ?_
              replace g0 : u0 = .int .i64 (first : Nat) := g0
              subst g0
              refine hf.depE hg hd 16 75 (by kernel_rfl) fun u1 e1 g1 h1 => ?_
              replace g1 : u1 = .int .i64 (root : Nat) := g1
              subst g1
              go_simp
              exact hK _ _ rfl (hW.upd 17 _ (by decide) (by decide))
            · intro r a w' hf hg hW hr hd K hK
              refine wpOp_of rfl rfl ?_
              refine hf.depE hg hd 14 73 (by kernel_rfl) fun u0 e0 g0 h0 => ?_
              replace g0 : u0 = .slice (some ⟨g, 0, none⟩) m cap := g0
              subst g0
              refine hf.depE hg hd 17 76 (by kernel_rfl) fun u1 e1 g1 h1 => ?_
              replace g1 : u1 = .int .i64 (ir : Nat) := g1
              subst g1
              go_simp
              exact hK _ _ rfl (hW.upd 18 _ (by decide) (by decide))
            · intro r a w' hf hg hW hr hd K hK
              refine wpOp_of rfl rfl ?_
              refine hf.depE hg hd 18 77 (by kernel_rfl) fun u0 e0 g0 h0 => ?_
              replace g0 : u0 = .pointer (some ⟨g, ir, none⟩) := g0
              subst g0
              have z0 := hW.loadi hr
              go_simp
              exact hK _ _ rfl (hW.upd 19 _ (by decide) (by decide))
            · intro r a w' hf hg hW hr hd K hK
              refine wpOp_of rfl rfl ?_
              refine hf.depE hg hd 0 59 (by kernel_rfl) fun u0 e0 g0 h0 => ?_
              replace g0 : u0 = .slice (some ⟨g, 0, none⟩) m cap := g0
              subst g0
              refine hf.depE hg hd 3 62 (by kernel_rfl) fun u1 e1 g1 h1 => ?_
              replace g1 : u1 = .int .i64 (ir : Nat) := g1
              subst g1
              go_simp
              exact hK _ _ rfl (hW.upd 20 _ (by decide) (by decide))
            · intro r a w' hf hg hW hr hd K hK
              refine wpOp_of rfl rfl ?_
              refine hf.depE hg hd 20 79 (by kernel_rfl) fun u0 e0 g0 h0 => ?_
              replace g0 : u0 = .pointer (some ⟨g, ir, none⟩) := g0
              subst g0
              refine hf.depE hg hd 13 72 (by kernel_rfl) fun u1 e1 g1 h1 => ?_
              replace g1 : u1 = .int .i64 (xJ : Nat) := g1
              subst g1
              refine hf.depE hg hd 19 78 (by kernel_rfl) fun uo eo go ho => ?_
              obtain ⟨old, y0⟩ := hW.old (k := ir) hI HLN.out
              have y1 := hW.free ir
              go_simp
              exact hK undef _ trivial (hW.sta hr (by rw [ho]; simp) (by decide) undef)
            · intro r a w' hf hg hW hr hd K hK
              refine wpOp_of rfl rfl ?_
              refine hf.depE hg hd 4 63 (by kernel_rfl) fun u0 e0 g0 h0 => ?_
              replace g0 : u0 = .slice (some ⟨g, 0, none⟩) m cap := g0
              subst g0
              refine hf.depE hg hd 7 66 (by kernel_rfl) fun u1 e1 g1 h1 => ?_
              replace g1 : u1 = .int .i64 (i0 : Nat) := g1
              subst g1
              go_simp
              exact hK _ _ rfl (hW.upd 22 _ (by decide) (by decide))
            · intro r a w' hf hg hW hr hd K hK
              refine wpOp_of rfl rfl ?_
              refine hf.depE hg hd 22 80 (by kernel_rfl) fun u0 e0 g0 h0 => ?_
              replace g0 : u0 = .pointer (some ⟨g, i0, none⟩) := g0
              subst g0
              refine hf.depE hg hd 19 78 (by kernel_rfl) fun u1 e1 g1 h1 => ?_
              replace g1 : u1 = .int .i64 (xI : Nat) := g1
              subst g1
              refine hf.depE hg hd 13 72 (by kernel_rfl) fun uo eo go ho => ?_
              obtain ⟨old, y0⟩ := hW.old (k := i0) hJ HLN.out
              have y1 := hW.free i0
              go_simp
              exact hK undef _ trivial (hW.stb hr (by rw [ho]; simp) (by decide) undef)
          intro r' w9 hg hW hr'
          simp only [List.length_cons, List.length_nil, Nat.reduceAdd, List.range_succ, List.range_zero, List.nil_append, List.cons_append, List.map_cons, List.map_nil, putAll, Act.put, List.setIfInBounds_toArray, List.set_cons_succ, List.set_cons_zero]
          have ho9 := hW.fin (hr' 21 (by decide)) (hr' 23 (by decide))
          have HS9 := Lib.hid (HSW.out.2.2.2 _ ho9 hW.kp)
          clear hg hW hr' ho9 HSW HLN hI hJ hI' hJ'
          go_wp2_with fail
          go_roundw
          case rel => exact ⟨c0, swp dj ir i0, by omega, by go_num, HOY.out, HS9.out⟩
          case measure => have := HQ.out; simp [intOf]; omega
        · have hdn : decide (c < 0) = false := decide_eq_false hneg
          have HL := Lib.hid (show ltB l dj[ir]! dj[i0]! = false by rw [HLT.out, hdn])
          go_wp2_with fail
          go_quiet_grown (first | (go_at_call 37; refine Calls.grown_of (HC.out _ _)))
          have HS3 := Lib.hid (HS.out.grown ⟨nq, osq, rfl⟩)
          clear HC HLT gx gy
          generalize grow (wr1.drewN nq) osq = wq2 at *
          have HON := Lib.hid (show dj = R by have h := HOC.out; rw [if_neg (by rw [HL.out]; decide)] at h; exact h)
          go_wp2_with fail
          first | go_end0 | ((try simp only [Exit.inBlock, Exit.then]); refine bodyPost_ret (results_none rfl _ _ _) rfl ?_)
          exact ⟨rfl, by rw [← HON.out]; exact HS3.out⟩
end Go.Proofs.Ytamjhpdgclbfgaa
