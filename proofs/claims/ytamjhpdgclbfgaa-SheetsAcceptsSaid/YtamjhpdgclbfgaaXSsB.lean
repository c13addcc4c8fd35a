/- Chapter 09: slices.insertionSortCmpFunc over a part of the row: the walk. Printed by gen_ssb.py. -/
import Derived.Test.YtamjhpdgclbfgaaXSsAM
namespace Go.Proofs.Ytamjhpdgclbfgaa
open Go.RowKit Go.Kq Go.Sort

theorem insInner_stop {lt : Nat → Nat → Bool} {a : Nat} {d : Array Nat} : ∀ {j : Nat}, j ≤ a → insInner lt a j d = d
  | 0, _ => rfl
  | j + 1, h => by
    unfold insInner
    rw [if_neg (by simp; omega)]
theorem insInner_yes {lt : Nat → Nat → Bool} {a j : Nat} {d : Array Nat} (ha : a < j + 1) (h : lt d[j + 1]! d[j]! = true) : insInner lt a (j + 1) d = insInner lt a j (swp d (j + 1) j) := by
  conv => lhs; unfold insInner
  rw [if_pos (by simp [h]; omega)]
theorem insInner_no {lt : Nat → Nat → Bool} {a j : Nat} {d : Array Nat} (h : lt d[j + 1]! d[j]! = false) : insInner lt a (j + 1) d = d := by
  conv => lhs; unfold insInner
  rw [if_neg (by simp [h])]
theorem insOuter_on {lt : Nat → Nat → Bool} {a b i : Nat} {d : Array Nat} (h : i < b) : insOuter lt a b i d = insOuter lt a b (i + 1) (insInner lt a i d) := by
  conv => lhs; unfold insOuter
  rw [if_pos h]
theorem insOuter_end {lt : Nat → Nat → Bool} {a b i : Nat} {d : Array Nat} (h : b ≤ i) : insOuter lt a b i d = d := by
  unfold insOuter
  rw [if_neg (by omega)]
set_option maxHeartbeats 8000000 in
set_option maxRecDepth 100000 in
theorem insP_any (P : Pt) (A : Option Addr) (n ca : Nat) (l : List Ct) (base g cap m a b : Nat) (d : Array Nat) (w W0 : World) (hB : CmpB P A n ca l g w) (hs : Srt base g m cap n w d W0) (hm : m ≤ 1000) (hab : a ≤ b) (hb : b ≤ m) :
    Calls Try.prog 86 #[.slice (some ⟨g, 0, none⟩) m cap, .int .i64 (a : Nat), .int .i64 (b : Nat), befV P A n ca] W0 fun e w' => e = .returned (.tuple #[]) ∧ Srt base g m cap n w (insertionSort (ltB l) d a b) w' := by
  have mixed : Try.prog.follows .mixedOrders = true := by kernel_rfl
  have HB := Lib.hid hB
  have HS := Lib.hid hs
  obtain ⟨R, hR⟩ : ∃ R, insertionSort (ltB l) d a b = R := ⟨_, rfl⟩
  rw [hR]
  have HR := Lib.hid (show insOuter (ltB l) a b (a + 1) d = R from hR)
  have hwa : IntKind.i64.wrap ((a : Int) + 1) = ((a + 1 : Nat) : Int) := by rw [IntKind.wrap_i64]; omega
  clear hB hs hR
  simp only [befV, jobV]
  go_enter Try.func86, Try.ntmps86
  go_wp2_with fail
  go_loopw [8] (fun vi wr => ∃ (i : Nat) (di : Array Nat), a + 1 ≤ i ∧ i ≤ m + 1 ∧ vi = .int .i64 (i : Nat) ∧ insOuter (ltB l) a b i di = R ∧ Srt base g m cap n w di wr) (fun vi _ => m + 2 - (intOf vi).toNat)
  case atStart => exact ⟨a + 1, d, Nat.le_refl _, by omega, by simp, HR.out, HS.out⟩
  case round =>
    obtain ⟨i, di, hi1, hi2, rfl, hor, hsr⟩ := hrel
    have HO := Lib.hid hor
    replace HS := Lib.hid hsr
    clear hor hsr HR hwa
    by_cases hlt : i < b
    · have hlt' : (i : Int) < (b : Int) := by omega
      have HIN := Lib.hid (show insOuter (ltB l) a b (i + 1) (insInner (ltB l) a i di) = R by rw [← insOuter_on hlt]; exact HO.out)
      clear HO
      go_wp2_with fail
      go_loopw [9] (fun vj wr2 => ∃ (j : Nat) (dj : Array Nat), a ≤ j ∧ j ≤ i ∧ vj = .int .i64 (j : Nat) ∧ insInner (ltB l) a j dj = insInner (ltB l) a i di ∧ Srt base g m cap n w dj wr2) (fun vj _ => (intOf vj).toNat)
      case atStart => exact ⟨i, di, by omega, Nat.le_refl _, rfl, rfl, HS.out⟩
      case round =>
        obtain ⟨j, dj, hj1, hj2, rfl, hej, hsj⟩ := hrel
        clear HS
        have HE := Lib.hid hej
        have HS := Lib.hid hsj
        clear hej hsj
        have hwi : IntKind.i64.wrap ((i : Int) + 1) = ((i + 1 : Nat) : Int) := by rw [IntKind.wrap_i64]; omega
        by_cases haj : a < j
        · obtain ⟨j1, hj⟩ : ∃ j1, j = j1 + 1 := ⟨j - 1, by omega⟩
          have haj' : (a : Int) < (j : Int) := by omega
          have hd0 : decide ((a : Int) < (j : Int)) = true := decide_eq_true haj'
          have hwj : IntKind.i64.wrap ((j : Int) - 1) = ((j1 : Nat) : Int) := by rw [IntKind.wrap_i64]; omega
          have HJ := Lib.hid hj
          clear hj
          obtain ⟨x, hx⟩ : ∃ x : Nat, dj[j]! = x := ⟨_, rfl⟩
          have hxm : j < m := by omega
          have hxi : (j : Int) < (m : Nat) := by omega
          have gx := fun N os => HS.out.cg hxm hx N os
          obtain ⟨y, hy⟩ : ∃ x : Nat, dj[j1]! = x := ⟨_, rfl⟩
          have hym : j1 < m := by have := HJ.out; omega
          have hyi : (j1 : Int) < (m : Nat) := by omega
          have gy := fun N os => HS.out.cg hym hy N os
          have HC := Lib.hid (fun N os => HB.out (grow (wr.drewN N) os) (HS.out.k.no (kp_of_grow ⟨N, os, rfl⟩)) x y (by rw [← hx]; exact HS.out.lt _ hxm) (by rw [← hy]; exact HS.out.lt _ hym))
          obtain ⟨c, hc⟩ : ∃ c, befF l x y = c := ⟨_, rfl⟩
          rw [hc] at HC
          have HLT := Lib.hid (show ltB l dj[j]! dj[j1]! = decide (c < 0) by rw [hx, hy, ← hc]; rfl)
          clear hx hy hc
          by_cases hneg : c < 0
          · have hdn : decide (c < 0) = true := decide_eq_true hneg
            have HL := Lib.hid (show ltB l dj[j]! dj[j1]! = true by rw [HLT.out, hdn])
            go_wp2_with fail
            go_quiet_grown (first | (go_at_call 37; refine Calls.grown_of (HC.out _ _)))
            have HS2 := Lib.hid (HS.out.grown ⟨nq, osq, rfl⟩)
            clear HC HLT gx gy
            generalize grow (wr.drewN nq) osq = wq at *
            have HIY := Lib.hid (show insInner (ltB l) a j1 (swp dj j j1) = insInner (ltB l) a i di by rw [← HE.out, HJ.out]; have h := HL.out; rw [HJ.out] at h; rw [insInner_yes (by have := HJ.out; omega) h])
            clear HE hd0 hdn hneg
            obtain ⟨xI, hxI⟩ : ∃ x : Nat, dj[j]! = x := ⟨_, rfl⟩
            obtain ⟨xJ, hxJ⟩ : ∃ x : Nat, dj[j1]! = x := ⟨_, rfl⟩
            have hI : j < m := hxm
            have hJ : j1 < m := hym
            have hI' : (j : Int) < (m : Nat) := by omega
            have hJ' : (j1 : Int) < (m : Nat) := by omega
            have HSW := Lib.hid (show wq.ownsRow base 3 1 (.slice (some ⟨g, 0, none⟩) m cap) m (dj.toList.map natI) ∧ (dj.toList.map natI)[j]? = some (.int .i64 (xI : Nat)) ∧ (dj.toList.map natI)[j1]? = some (.int .i64 (xJ : Nat)) ∧ ∀ W', W'.ownsRow base 3 1 (.slice (some ⟨g, 0, none⟩) m cap) m (((dj.toList.map natI).set j (.int .i64 (xJ : Nat))).set j1 (.int .i64 (xI : Nat))) → Kp (One g) wq W' → Srt base g m cap n w (swp dj j j1) W' from ⟨HS2.out.row, HS2.out.at_ hI hxI, HS2.out.at_ hJ hxJ, fun W' ho k => HS2.out.swp hI hJ hxI hxJ ho k⟩)
            have HLN := Lib.hid (show (dj.toList.map natI).length = m by have := HS2.out.row.1; simpa using this)
            clear hxI hxJ
            go_wp2_with fail
            refine wp_region_each (fun ix uR => match ix with | 0 => uR = .slice (some ⟨g, 0, none⟩) m cap | 1 => uR = .int .i64 (j : Nat) | 2 => uR = .slice (some ⟨g, 0, none⟩) m cap | 3 => uR = .int .i64 (j : Nat) | 4 => uR = .int .i64 (j1 : Nat) | 5 => uR = .slice (some ⟨g, 0, none⟩) m cap | 6 => uR = .int .i64 (j : Nat) | 7 => uR = .int .i64 (j1 : Nat) | 8 => uR = .pointer (some ⟨g, j1, none⟩) | 9 => uR = .int .i64 (xJ : Nat) | 10 => uR = .slice (some ⟨g, 0, none⟩) m cap | 11 => uR = .int .i64 (j : Nat) | 12 => uR = .pointer (some ⟨g, j, none⟩) | 13 => uR = .int .i64 (xI : Nat) | 14 => uR = .pointer (some ⟨g, j, none⟩) | 16 => uR = .pointer (some ⟨g, j1, none⟩) | _ => True) (Sx wq g base 3 m cap (dj.toList.map natI) j j1 (.int .i64 (xI : Nat)) (.int .i64 (xJ : Nat)) 9 13 15 17) (by kernel_rfl) (by kernel_rfl) (by kernel_rfl) ?_ ?_ ?_
            · exact Sx.start HSW.out.1 HSW.out.2.1 HSW.out.2.2.1
            · refine ⟨?_, ?_, ?_, ?_, ?_, ?_, ?_, ?_, ?_, ?_, ?_, ?_, ?_, ?_, ?_, ?_, ?_, ?_, trivial⟩
              · intro r a w' hf hg hW hr hd K hK
                refine wpOp_of rfl rfl ?_
                have e0 : a.tmps.getD 0 undef = .slice (some ⟨g, 0, none⟩) m cap := hf.evalFree (by kernel_rfl)
                go_simp
                exact hK _ _ rfl (hW.upd 0 _ (by decide) (by decide))
              · intro r a w' hf hg hW hr hd K hK
                refine wpOp_of rfl rfl ?_
                have e0 : a.tmps.getD 9 undef = .int .i64 (j : Nat) := hf.evalFree (by kernel_rfl)
                go_simp
                exact hK _ _ rfl (hW.upd 1 _ (by decide) (by decide))
              · intro r a w' hf hg hW hr hd K hK
                refine wpOp_of rfl rfl ?_
                have e0 : a.tmps.getD 0 undef = .slice (some ⟨g, 0, none⟩) m cap := hf.evalFree (by kernel_rfl)
                go_simp
                exact hK _ _ rfl (hW.upd 2 _ (by decide) (by decide))
              · intro r a w' hf hg hW hr hd K hK
                refine wpOp_of rfl rfl ?_
                have e0 : a.tmps.getD 9 undef = .int .i64 (j : Nat) := hf.evalFree (by kernel_rfl)
                go_simp
                exact hK _ _ rfl (hW.upd 3 _ (by decide) (by decide))
              · intro r a w' hf hg hW hr hd K hK
                refine wpOp_of rfl rfl ?_
                refine hf.depE hg hd 3 40 (by kernel_rfl) fun u0 e0 g0 h0 => ?_
                replace g0 : u0 = .int .i64 (j : Nat) := g0
                subst g0
                go_simp
                exact hK _ _ rfl (hW.upd 4 _ (by decide) (by decide))
              · intro r a w' hf hg hW hr hd K hK
                refine wpOp_of rfl rfl ?_
                have e0 : a.tmps.getD 0 undef = .slice (some ⟨g, 0, none⟩) m cap := hf.evalFree (by kernel_rfl)
                go_simp
                exact hK _ _ rfl (hW.upd 5 _ (by decide) (by decide))
              · intro r a w' hf hg hW hr hd K hK
                refine wpOp_of rfl rfl ?_
                have e0 : a.tmps.getD 9 undef = .int .i64 (j : Nat) := hf.evalFree (by kernel_rfl)
                go_simp
                exact hK _ _ rfl (hW.upd 6 _ (by decide) (by decide))
              · intro r a w' hf hg hW hr hd K hK
                refine wpOp_of rfl rfl ?_
                refine hf.depE hg hd 6 43 (by kernel_rfl) fun u0 e0 g0 h0 => ?_
                replace g0 : u0 = .int .i64 (j : Nat) := g0
                subst g0
                go_simp
                exact hK _ _ rfl (hW.upd 7 _ (by decide) (by decide))
              · intro r a w' hf hg hW hr hd K hK
                refine wpOp_of rfl rfl ?_
                refine hf.depE hg hd 5 42 (by kernel_rfl) fun u0 e0 g0 h0 => ?_
                replace g0 : u0 = .slice (some ⟨g, 0, none⟩) m cap := g0
                subst g0
                refine hf.depE hg hd 7 44 (by kernel_rfl) fun u1 e1 g1 h1 => ?_
                replace g1 : u1 = .int .i64 (j1 : Nat) := g1
                subst g1
                go_simp
                exact hK _ _ rfl (hW.upd 8 _ (by decide) (by decide))
              · intro r a w' hf hg hW hr hd K hK
                refine wpOp_of rfl rfl ?_
                refine hf.depE hg hd 8 45 (by kernel_rfl) fun u0 e0 g0 h0 => ?_
                replace g0 : u0 = .pointer (some ⟨g, j1, none⟩) := g0
                subst g0
                have z0 := hW.loadj hr
                go_simp
                exact hK _ _ rfl (hW.upd 9 _ (by decide) (by decide))
              · intro r a w' hf hg hW hr hd K hK
                refine wpOp_of rfl rfl ?_
                have e0 : a.tmps.getD 0 undef = .slice (some ⟨g, 0, none⟩) m cap := hf.evalFree (by kernel_rfl)
                go_simp
                exact hK _ _ rfl (hW.upd 10 _ (by decide) (by decide))
              · intro r a w' hf hg hW hr hd K hK
                refine wpOp_of rfl rfl ?_
                have e0 : a.tmps.getD 9 undef = .int .i64 (j : Nat) := hf.evalFree (by kernel_rfl)
                go_simp
                exact hK _ _ rfl (hW.upd 11 _ (by decide) (by decide))
              · intro r a w' hf hg hW hr hd K hK
                refine wpOp_of rfl rfl ?_
                refine hf.depE hg hd 10 47 (by kernel_rfl) fun u0 e0 g0 h0 => ?_
                replace g0 : u0 = .slice (some ⟨g, 0, none⟩) m cap := g0
                subst g0
                refine hf.depE hg hd 11 48 (by kernel_rfl) fun u1 e1 g1 h1 => ?_
                replace g1 : u1 = .int .i64 (j : Nat) := g1
                subst g1
                go_simp
                exact hK _ _ rfl (hW.upd 12 _ (by decide) (by decide))
              · intro r a w' hf hg hW hr hd K hK
                refine wpOp_of rfl rfl ?_
                refine hf.depE hg hd 12 49 (by kernel_rfl) fun u0 e0 g0 h0 => ?_
                replace g0 : u0 = .pointer (some ⟨g, j, none⟩) := g0
                subst g0
                have z0 := hW.loadi hr
                go_simp
                exact hK _ _ rfl (hW.upd 13 _ (by decide) (by decide))
              · intro r a w' hf hg hW hr hd K hK
                refine wpOp_of rfl rfl ?_
                refine hf.depE hg hd 0 37 (by kernel_rfl) fun u0 e0 g0 h0 => ?_
                replace g0 : u0 = .slice (some ⟨g, 0, none⟩) m cap := g0
                subst g0
                refine hf.depE hg hd 1 38 (by kernel_rfl) fun u1 e1 g1 h1 => ?_
                replace g1 : u1 = .int .i64 (j : Nat) := g1
                subst g1
                go_simp
                exact hK _ _ rfl (hW.upd 14 _ (by decide) (by decide))
              · intro r a w' hf hg hW hr hd K hK
                refine wpOp_of rfl rfl ?_
                refine hf.depE hg hd 14 51 (by kernel_rfl) fun u0 e0 g0 h0 => ?_
                replace g0 : u0 = .pointer (some ⟨g, j, none⟩) := g0
                subst g0
                refine hf.depE hg hd 9 46 (by kernel_rfl) fun u1 e1 g1 h1 => ?_
                replace g1 : u1 = .int .i64 (xJ : Nat) := g1
                subst g1
                refine hf.depE hg hd 13 50 (by kernel_rfl) fun uo eo go ho => ?_
                obtain ⟨old, y0⟩ := hW.old (k := j) hI HLN.out
                have y1 := hW.free j
                go_simp
                exact hK undef _ trivial (hW.sta hr (by rw [ho]; simp) (by decide) undef)
              · intro r a w' hf hg hW hr hd K hK
                refine wpOp_of rfl rfl ?_
                refine hf.depE hg hd 2 39 (by kernel_rfl) fun u0 e0 g0 h0 => ?_
                replace g0 : u0 = .slice (some ⟨g, 0, none⟩) m cap := g0
                subst g0
                refine hf.depE hg hd 4 41 (by kernel_rfl) fun u1 e1 g1 h1 => ?_
                replace g1 : u1 = .int .i64 (j1 : Nat) := g1
                subst g1
                go_simp
                exact hK _ _ rfl (hW.upd 16 _ (by decide) (by decide))
              · intro r a w' hf hg hW hr hd K hK
                refine wpOp_of rfl rfl ?_
                refine hf.depE hg hd 16 52 (by kernel_rfl) fun u0 e0 g0 h0 => ?_
                replace g0 : u0 = .pointer (some ⟨g, j1, none⟩) := g0
                subst g0
                refine hf.depE hg hd 13 50 (by kernel_rfl) fun u1 e1 g1 h1 => ?_
                replace g1 : u1 = .int .i64 (xI : Nat) := g1
                subst g1
                refine hf.depE hg hd 9 46 (by kernel_rfl) fun uo eo go ho => ?_
                obtain ⟨old, y0⟩ := hW.old (k := j1) hJ HLN.out
                have y1 := hW.free j1
                go_simp
                exact hK undef _ trivial (hW.stb hr (by rw [ho]; simp) (by decide) undef)
            intro r' w9 hg hW hr'
            simp only [List.length_cons, List.length_nil, Nat.reduceAdd, List.range_succ, List.range_zero, List.nil_append, List.cons_append, List.map_cons, List.map_nil, putAll, Act.put, List.setIfInBounds_toArray, List.set_cons_succ, List.set_cons_zero]
            have ho9 := hW.fin (hr' 15 (by decide)) (hr' 17 (by decide))
            have HS9 := Lib.hid (HSW.out.2.2.2 _ ho9 hW.kp)
            clear hg hW hr' ho9 HSW HLN hI hJ hI' hJ'
            go_wp2_with fail
            go_roundw
            case rel => exact ⟨j1, swp dj j j1, by have := HJ.out; omega, by have := HJ.out; omega, by go_num, HIY.out, HS9.out⟩
            case measure => have := HJ.out; simp [intOf]; omega
          · have hdn : decide (c < 0) = false := decide_eq_false hneg
            have HL := Lib.hid (show ltB l dj[j]! dj[j1]! = false by rw [HLT.out, hdn])
            go_wp2_with fail
            go_quiet_grown (first | (go_at_call 37; refine Calls.grown_of (HC.out _ _)))
            have HS2 := Lib.hid (HS.out.grown ⟨nq, osq, rfl⟩)
            clear HC HLT gx gy
            generalize grow (wr.drewN nq) osq = wq at *
            have HN := Lib.hid (show insOuter (ltB l) a b (i + 1) dj = R by rw [← HIN.out, ← HE.out, HJ.out]; have h := HL.out; rw [HJ.out] at h; rw [insInner_no h])
            go_wp2_with fail
            go_roundw
            case rel => exact ⟨i + 1, dj, by omega, by omega, by go_num, HN.out, HS2.out⟩
            case measure => simp [intOf]; omega
        · obtain rfl : j = a := by omega
          have hd0 : decide ((j : Int) < (j : Int)) = false := decide_eq_false (by omega)
          have HN := Lib.hid (show insOuter (ltB l) j b (i + 1) dj = R by rw [← HIN.out, ← HE.out, insInner_stop (Nat.le_refl _)])
          go_wp2_with fail
          go_quiet (fail)
          go_wp2_with fail
          go_roundw
          case rel => exact ⟨i + 1, dj, by omega, by omega, by go_num, HN.out, HS.out.no (Kp.drewN _ _ _)⟩
          case measure => simp [intOf]; omega
    · have hge : (b : Int) ≤ (i : Int) := by omega
      have HEND := Lib.hid (show di = R by rw [← HO.out, insOuter_end (by omega)])
      clear HO
      go_wp2_with fail
      go_end0
      exact ⟨rfl, by rw [← HEND.out]; exact HS.out⟩
end Go.Proofs.Ytamjhpdgclbfgaa
