/- Chapter 09: slices.partitionCmpFunc: the walk. Printed by gen_ssd.py. -/
import Derived.Deep.CutBlock
import Derived.Deep.CutRange
import Derived.Test.YtamjhpdgclbfgaaXSsAM
namespace Go.Proofs.Ytamjhpdgclbfgaa
open Go.RowKit Go.Kq Go.Sort

theorem up_on {p : Nat → Bool} {d : Array Nat} {i j : Nat} (h : i ≤ j) (hp : p d[i]! = true) : scanUp p d j i = scanUp p d j (i + 1) := by
  conv => lhs; rw [scanUp]
  rw [if_pos (by simp [h, hp])]
theorem up_no {p : Nat → Bool} {d : Array Nat} {i j : Nat} (h : i ≤ j → p d[i]! = false) : scanUp p d j i = i := by
  rw [scanUp, if_neg (by
    by_cases hij : i ≤ j
    · simp [h hij]
    · simp [hij])]
theorem down_on {p : Nat → Bool} {d : Array Nat} {i j : Nat} (h : i ≤ j + 1) (hp : p d[j + 1]! = true) : scanDown p d i (j + 1) = scanDown p d i j := by
  conv => lhs; rw [scanDown]
  rw [if_pos (by simp [h, hp])]
theorem down_no {p : Nat → Bool} {d : Array Nat} {i : Nat} : ∀ {j : Nat}, (i ≤ j → p d[j]! = false) → scanDown p d i j = j
  | 0, _ => rfl
  | j + 1, h => by
    rw [scanDown, if_neg (by
      by_cases hij : i ≤ j + 1
      · simp [h hij]
      · simp [hij])]
def pLt (l : List Ct) (d : Array Nat) (fa : Nat) (x : Nat) : Bool := ltB l x d[fa]!
def pGe (l : List Ct) (d : Array Nat) (fa : Nat) (x : Nat) : Bool := !ltB l x d[fa]!
theorem part_end {l : List Ct} {fa i j i2 j2 : Nat} {d : Array Nat} (h1 : scanUp (pLt l d fa) d j i = i2) (h2 : scanDown (pGe l d fa) d i2 j = j2) (h : i2 > j2) : partLoop (ltB l) fa i j d = (j2, d) := by
  rw [partLoop_eq]
  have e1 : scanUp (fun x => ltB l x d[fa]!) d j i = i2 := h1
  have e2 : scanDown (fun x => !ltB l x d[fa]!) d i2 j = j2 := h2
  rw [e1, e2, if_pos h]
theorem part_on {l : List Ct} {fa i j i2 j2 : Nat} {d : Array Nat} (h1 : scanUp (pLt l d fa) d j i = i2) (h2 : scanDown (pGe l d fa) d i2 j = j2) (h : i2 ≤ j2) : partLoop (ltB l) fa i j d = partLoop (ltB l) fa (i2 + 1) (j2 - 1) (swp d i2 j2) := by
  conv => lhs; rw [partLoop_eq]
  have e1 : scanUp (fun x => ltB l x d[fa]!) d j i = i2 := h1
  have e2 : scanDown (fun x => !ltB l x d[fa]!) d i2 j = j2 := h2
  rw [e1, e2, if_neg (by omega)]
theorem part_lt {l : List Ct} {fa i j i2 j2 : Nat} {d : Array Nat} (h1 : scanUp (pLt l d fa) d j i = i2) (h2 : scanDown (pGe l d fa) d i2 j = j2) (h : i2 ≤ j2) (hp : 0 < i2) : i2 < j2 := by
  rcases Nat.lt_or_ge i2 j2 with hlt | hge
  · exact hlt
  · exfalso
    have e : i2 = j2 := by omega
    obtain ⟨_, _, _, u4⟩ := scanUp_spec (pLt l d fa) d j _ i rfl
    obtain ⟨v1, _, _, v4⟩ := scanDown_spec (pGe l d fa) d i2 j
    rw [h1] at u4
    rw [h2] at v1 v4
    have a1 := u4 (by omega)
    have a2 := v4 (by omega) (by omega)
    rw [e] at a1
    unfold pLt at a1
    unfold pGe at a2
    rw [a1] at a2
    cases a2
set_option maxHeartbeats 16000000 in
set_option maxRecDepth 100000 in
theorem partP_any (P : Pt) (A : Option Addr) (n ca : Nat) (l : List Ct) (base g cap m fa fb pv : Nat) (d : Array Nat) (w W0 : World) (hB : CmpB P A n ca l g w) (hs : Srt base g m cap n w d W0) (hm : m ≤ 1000) (hap : fa ≤ pv) (hpb : pv < fb) (hb : fb ≤ m) :
    Calls Try.prog 93 #[.slice (some ⟨g, 0, none⟩) m cap, .int .i64 (fa : Nat), .int .i64 (fb : Nat), .int .i64 (pv : Nat), befV P A n ca] W0 fun e w' => ∃ bl, e = .returned (.tuple #[.int .i64 ((partition (ltB l) d fa fb pv).1 : Nat), .bool bl]) ∧ Srt base g m cap n w (partition (ltB l) d fa fb pv).2.2 w' := by
  have mixed : Try.prog.follows .mixedOrders = true := by kernel_rfl
  have HB := Lib.hid hB
  have HS := Lib.hid hs
  rw [partition_fst, partition_arr]
  obtain ⟨R, hR⟩ : ∃ R, partLoop (ltB l) fa (fa + 1) (fb - 1) (swp d fa pv) = R := ⟨_, rfl⟩
  rw [hR]
  have HR := Lib.hid hR
  obtain ⟨i0, hi0⟩ : ∃ r, r = fa + 1 := ⟨_, rfl⟩
  obtain ⟨j0, hj0⟩ : ∃ r, r = fb - 1 := ⟨_, rfl⟩
  have hwi0 : IntKind.i64.wrap ((fa : Int) + 1) = ((i0 : Nat) : Int) := by rw [IntKind.wrap_i64]; omega
  have hwj0 : IntKind.i64.wrap ((fb : Int) - 1) = ((j0 : Nat) : Int) := by rw [IntKind.wrap_i64]; omega
  have HIJ := Lib.hid (show i0 = fa + 1 ∧ j0 + 1 = fb by omega)
  clear hB hs hR hi0 hj0
  simp only [befV, jobV]
  go_enter Try.func93, Try.ntmps93
  obtain ⟨xI, hxI⟩ : ∃ x : Nat, d[fa]! = x := ⟨_, rfl⟩
  obtain ⟨xJ, hxJ⟩ : ∃ x : Nat, d[pv]! = x := ⟨_, rfl⟩
  have hI : fa < m := by omega
  have hJ : pv < m := by omega
  have hI' : (fa : Int) < (m : Nat) := by omega
  have hJ' : (pv : Int) < (m : Nat) := by omega
  have HSW := Lib.hid (show W0.ownsRow base 3 1 (.slice (some ⟨g, 0, none⟩) m cap) m (d.toList.map natI) ∧ (d.toList.map natI)[fa]? = some (.int .i64 (xI : Nat)) ∧ (d.toList.map natI)[pv]? = some (.int .i64 (xJ : Nat)) ∧ ∀ W', W'.ownsRow base 3 1 (.slice (some ⟨g, 0, none⟩) m cap) m (((d.toList.map natI).set fa (.int .i64 (xJ : Nat))).set pv (.int .i64 (xI : Nat))) → Kp (One g) W0 W' → Srt base g m cap n w (swp d fa pv) W' from ⟨HS.out.row, HS.out.at_ hI hxI, HS.out.at_ hJ hxJ, fun W' ho k => HS.out.swp hI hJ hxI hxJ ho k⟩)
  have HLN := Lib.hid (show (d.toList.map natI).length = m by have := HS.out.row.1; simpa using this)
  clear hxI hxJ
  go_wp2_with fail
  refine wp_region_each (fun ix uR => match ix with | 0 => uR = .slice (some ⟨g, 0, none⟩) m cap | 1 => uR = .int .i64 (fa : Nat) | 2 => uR = .slice (some ⟨g, 0, none⟩) m cap | 3 => uR = .int .i64 (pv : Nat) | 4 => uR = .slice (some ⟨g, 0, none⟩) m cap | 5 => uR = .int .i64 (pv : Nat) | 6 => uR = .pointer (some ⟨g, pv, none⟩) | 7 => uR = .int .i64 (xJ : Nat) | 8 => uR = .slice (some ⟨g, 0, none⟩) m cap | 9 => uR = .int .i64 (fa : Nat) | 10 => uR = .pointer (some ⟨g, fa, none⟩) | 11 => uR = .int .i64 (xI : Nat) | 12 => uR = .pointer (some ⟨g, fa, none⟩) | 14 => uR = .pointer (some ⟨g, pv, none⟩) | _ => True) (Sx W0 g base 3 m cap (d.toList.map natI) fa pv (.int .i64 (xI : Nat)) (.int .i64 (xJ : Nat)) 7 11 13 15) (by kernel_rfl) (by kernel_rfl) (by kernel_rfl) ?_ ?_ ?_
  · exact Sx.start HSW.out.1 HSW.out.2.1 HSW.out.2.2.1
  · refine ⟨?_, ?_, ?_, ?_, ?_, ?_, ?_, ?_, ?_, ?_, ?_, ?_, ?_, ?_, ?_, ?_, trivial⟩
    · intro r a w' hf hg hW hr hd K hK
      refine wpOp_of rfl rfl ?_
      have e0 : a.tmps.getD 0 undef = .slice (some ⟨g, 0, none⟩) m cap := hf.evalFree (by kernel_rfl)
      go_simp
      exact hK _ _ rfl (hW.upd 0 _ (by decide) (by decide))
    · intro r a w' hf hg hW hr hd K hK
      refine wpOp_of rfl rfl ?_
      have e0 : a.tmps.getD 1 undef = .int .i64 (fa : Nat) := hf.evalFree (by kernel_rfl)
      go_simp
      exact hK _ _ rfl (hW.upd 1 _ (by decide) (by decide))
    · intro r a w' hf hg hW hr hd K hK
      refine wpOp_of rfl rfl ?_
      have e0 : a.tmps.getD 0 undef = .slice (some ⟨g, 0, none⟩) m cap := hf.evalFree (by kernel_rfl)
      go_simp
      exact hK _ _ rfl (hW.upd 2 _ (by decide) (by decide))
    · intro r a w' hf hg hW hr hd K hK
      refine wpOp_of rfl rfl ?_
      have e0 : a.tmps.getD 3 undef = .int .i64 (pv : Nat) := hf.evalFree (by kernel_rfl)
      go_simp
      exact hK _ _ rfl (hW.upd 3 _ (by decide) (by decide))
    · intro r a w' hf hg hW hr hd K hK
      refine wpOp_of rfl rfl ?_
      have e0 : a.tmps.getD 0 undef = .slice (some ⟨g, 0, none⟩) m cap := hf.evalFree (by kernel_rfl)
      go_simp
      exact hK _ _ rfl (hW.upd 4 _ (by decide) (by decide))
    · intro r a w' hf hg hW hr hd K hK
      refine wpOp_of rfl rfl ?_
      have e0 : a.tmps.getD 3 undef = .int .i64 (pv : Nat) := hf.evalFree (by kernel_rfl)
      go_simp
      exact hK _ _ rfl (hW.upd 5 _ (by decide) (by decide))
    · intro r a w' hf hg hW hr hd K hK
      refine wpOp_of rfl rfl ?_
      refine hf.depE hg hd 4 18 (by kernel_rfl) fun u0 e0 g0 h0 => ?_
      replace g0 : u0 = .slice (some ⟨g, 0, none⟩) m cap := g0
      subst g0
      refine hf.depE hg hd 5 19 (by kernel_rfl) fun u1 e1 g1 h1 => ?_
      replace g1 : u1 = .int .i64 (pv : Nat) := g1
      subst g1
      go_simp
      exact hK _ _ rfl (hW.upd 6 _ (by decide) (by decide))
    · intro r a w' hf hg hW hr hd K hK
      refine wpOp_of rfl rfl ?_
      refine hf.depE hg hd 6 20 (by kernel_rfl) fun u0 e0 g0 h0 => ?_
      replace g0 : u0 = .pointer (some ⟨g, pv, none⟩) := g0
      subst g0
      have z0 := hW.loadj hr
      go_simp
      exact hK _ _ rfl (hW.upd 7 _ (by decide) (by decide))
    · intro r a w' hf hg hW hr hd K hK
      refine wpOp_of rfl rfl ?_
      have e0 : a.tmps.getD 0 undef = .slice (some ⟨g, 0, none⟩) m cap := hf.evalFree (by kernel_rfl)
      go_simp
      exact hK _ _ rfl (hW.upd 8 _ (by decide) (by decide))
    · intro r a w' hf hg hW hr hd K hK
      refine wpOp_of rfl rfl ?_
      have e0 : a.tmps.getD 1 undef = .int .i64 (fa : Nat) := hf.evalFree (by kernel_rfl)
      go_simp
      exact hK _ _ rfl (hW.upd 9 _ (by decide) (by decide))
    · intro r a w' hf hg hW hr hd K hK
      refine wpOp_of rfl rfl ?_
      refine hf.depE hg hd 8 22 (by kernel_rfl) fun u0 e0 g0 h0 => ?_
      replace g0 : u0 = .slice (some ⟨g, 0, none⟩) m cap := g0
      subst g0
      refine hf.depE hg hd 9 23 (by kernel_rfl) fun u1 e1 g1 h1 => ?_
      replace g1 : u1 = .int .i64 (fa : Nat) := g1
      subst g1
      go_simp
      exact hK _ _ rfl (hW.upd 10 _ (by decide) (by decide))
    · intro r a w' hf hg hW hr hd K hK
      refine wpOp_of rfl rfl ?_
      refine hf.depE hg hd 10 24 (by kernel_rfl) fun u0 e0 g0 h0 => ?_
      replace g0 : u0 = .pointer (some ⟨g, fa, none⟩) := g0
      subst g0
      have z0 := hW.loadi hr
      go_simp
      exact hK _ _ rfl (hW.upd 11 _ (by decide) (by decide))
    · intro r a w' hf hg hW hr hd K hK
      refine wpOp_of rfl rfl ?_
      refine hf.depE hg hd 0 14 (by kernel_rfl) fun u0 e0 g0 h0 => ?_
      replace g0 : u0 = .slice (some ⟨g, 0, none⟩) m cap := g0
      subst g0
      refine hf.depE hg hd 1 15 (by kernel_rfl) fun u1 e1 g1 h1 => ?_
      replace g1 : u1 = .int .i64 (fa : Nat) := g1
      subst g1
      go_simp
      exact hK _ _ rfl (hW.upd 12 _ (by decide) (by decide))
    · intro r a w' hf hg hW hr hd K hK
      refine wpOp_of rfl rfl ?_
      refine hf.depE hg hd 12 26 (by kernel_rfl) fun u0 e0 g0 h0 => ?_
      replace g0 : u0 = .pointer (some ⟨g, fa, none⟩) := g0
      subst g0
      refine hf.depE hg hd 7 21 (by kernel_rfl) fun u1 e1 g1 h1 => ?_
      replace g1 : u1 = .int .i64 (xJ : Nat) := g1
      subst g1
      refine hf.depE hg hd 11 25 (by kernel_rfl) fun uo eo go ho => ?_
      obtain ⟨old, y0⟩ := hW.old (k := fa) hI HLN.out
      have y1 := hW.free fa
      go_simp
      exact hK undef _ trivial (hW.sta hr (by rw [ho]; simp) (by decide) undef)
    · intro r a w' hf hg hW hr hd K hK
      refine wpOp_of rfl rfl ?_
      refine hf.depE hg hd 2 16 (by kernel_rfl) fun u0 e0 g0 h0 => ?_
      replace g0 : u0 = .slice (some ⟨g, 0, none⟩) m cap := g0
      subst g0
      refine hf.depE hg hd 3 17 (by kernel_rfl) fun u1 e1 g1 h1 => ?_
      replace g1 : u1 = .int .i64 (pv : Nat) := g1
      subst g1
      go_simp
      exact hK _ _ rfl (hW.upd 14 _ (by decide) (by decide))
    · intro r a w' hf hg hW hr hd K hK
      refine wpOp_of rfl rfl ?_
      refine hf.depE hg hd 14 27 (by kernel_rfl) fun u0 e0 g0 h0 => ?_
      replace g0 : u0 = .pointer (some ⟨g, pv, none⟩) := g0
      subst g0
      refine hf.depE hg hd 11 25 (by kernel_rfl) fun u1 e1 g1 h1 => ?_
      replace g1 : u1 = .int .i64 (xI : Nat) := g1
      subst g1
      refine hf.depE hg hd 7 21 (by kernel_rfl) fun uo eo go ho => ?_
      obtain ⟨old, y0⟩ := hW.old (k := pv) hJ HLN.out
      have y1 := hW.free pv
      go_simp
      exact hK undef _ trivial (hW.stb hr (by rw [ho]; simp) (by decide) undef)
  intro r' w1 hg hW hr'
  simp only [List.length_cons, List.length_nil, Nat.reduceAdd, List.range_succ, List.range_zero, List.nil_append, List.cons_append, List.map_cons, List.map_nil, putAll, Act.put, List.setIfInBounds_toArray, List.set_cons_succ, List.set_cons_zero]
  have ho9 := hW.fin (hr' 13 (by decide)) (hr' 15 (by decide))
  have HS1 := Lib.hid (HSW.out.2.2.2 _ ho9 hW.kp)
  clear hg hW hr' ho9 HSW HLN hI hJ hI' hJ'
  have HR1 := Lib.hid (show partLoop (ltB l) fa i0 j0 (swp d fa pv) = R by rw [← HR.out]; have := HIJ.out; rw [this.1, show j0 = fb - 1 by omega])
  obtain ⟨d1, hd1⟩ : ∃ d1, swp d fa pv = d1 := ⟨_, rfl⟩
  rw [hd1] at HS1 HR1
  clear HR HS hd1
  go_upto_block 0 with fail
  go_cut [12] from 32 to 49 (fun vi wx => ∃ i : Nat, i0 ≤ i ∧ i ≤ j0 + 1 ∧ vi = .int .i64 (i : Nat) ∧ scanUp (pLt l d1 fa) d1 j0 i0 = i ∧ Srt base g m cap n w d1 wx)
  case first =>
    go_wp2_with fail
    go_loopw [12] (fun vi wx => ∃ i : Nat, i0 ≤ i ∧ i ≤ j0 + 1 ∧ vi = .int .i64 (i : Nat) ∧ scanUp (pLt l d1 fa) d1 j0 i0 = scanUp (pLt l d1 fa) d1 j0 i ∧ Srt base g m cap n w d1 wx) (fun vi _ => j0 + 2 - (intOf vi).toNat)
    case atStart => exact ⟨i0, Nat.le_refl _, by have := HIJ.out; omega, rfl, rfl, HS1.out⟩
    case round =>
      obtain ⟨i, hi1, hi2, rfl, hsc, hsx⟩ := hrel
      have HSC := Lib.hid hsc
      have HSI := Lib.hid hsx
      clear hsc hsx HS1
      have hwi : IntKind.i64.wrap ((i : Int) + 1) = ((i + 1 : Nat) : Int) := by rw [IntKind.wrap_i64]; have := HIJ.out; omega
      by_cases hij : i ≤ j0
      · have hd0 : decide ((i : Int) ≤ (j0 : Int)) = true := decide_eq_true (by omega)
        obtain ⟨x, hx⟩ : ∃ x : Nat, d1[i]! = x := ⟨_, rfl⟩
        have hxm : i < m := by have := HIJ.out; omega
        have hxi : (i : Int) < (m : Nat) := by omega
        have gx := fun N os => HSI.out.cg hxm hx N os
        obtain ⟨y, hy⟩ : ∃ x : Nat, d1[fa]! = x := ⟨_, rfl⟩
        have hym : fa < m := by have := HIJ.out; omega
        have hyi : (fa : Int) < (m : Nat) := by omega
        have gy := fun N os => HSI.out.cg hym hy N os
        have HC := Lib.hid (fun N os => HB.out (grow (wr.drewN N) os) (HSI.out.k.no (kp_of_grow ⟨N, os, rfl⟩)) x y (by rw [← hx]; exact HSI.out.lt _ hxm) (by rw [← hy]; exact HSI.out.lt _ hym))
        obtain ⟨c, hc⟩ : ∃ c, befF l x y = c := ⟨_, rfl⟩
        rw [hc] at HC
        have HLT := Lib.hid (show ltB l d1[i]! d1[fa]! = decide (c < 0) by rw [hx, hy, ← hc]; rfl)
        clear hx hy hc
        by_cases hneg : c < 0
        · have hdn : decide (c < 0) = true := decide_eq_true hneg
          have HL := Lib.hid (show ltB l d1[i]! d1[fa]! = true by rw [HLT.out, hdn])
          go_wp2_with fail
          go_quiet_grown (first | (go_at_call 37; refine Calls.grown_of (HC.out _ _)))
          have HSX := Lib.hid (HSI.out.grown ⟨nq, osq, rfl⟩)
          clear HC HLT gx gy
          generalize grow (wr.drewN nq) osq = wq at *
          have HX := Lib.hid (show scanUp (pLt l d1 fa) d1 j0 i0 = scanUp (pLt l d1 fa) d1 j0 (i + 1) by rw [HSC.out, up_on hij HL.out])
          go_wp2_with fail
          go_roundw
          case rel => exact ⟨i + 1, by omega, by omega, by go_num, HX.out, HSX.out⟩
          case measure => simp [intOf]; omega
        · have hdn : decide (c < 0) = false := decide_eq_false hneg
          have HL := Lib.hid (show ltB l d1[i]! d1[fa]! = false by rw [HLT.out, hdn])
          go_wp2_with fail
          go_quiet_grown (first | (go_at_call 37; refine Calls.grown_of (HC.out _ _)))
          have HSX := Lib.hid (HSI.out.grown ⟨nq, osq, rfl⟩)
          clear HC HLT gx gy
          generalize grow (wr.drewN nq) osq = wq at *
          have HX := Lib.hid (show scanUp (pLt l d1 fa) d1 j0 i0 = i by rw [HSC.out, up_no (p := pLt l d1 fa) (fun _ => HL.out)])
          go_wp2_with fail
          go_meet
          exact ⟨i, hi1, hi2, rfl, HX.out, HSX.out⟩
      · have hd0 : decide ((i : Int) ≤ (j0 : Int)) = false := decide_eq_false (by omega)
        have HX := Lib.hid (show scanUp (pLt l d1 fa) d1 j0 i0 = i by rw [HSC.out, up_no (fun h => absurd h hij)])
        go_wp2_with fail
        go_quiet (fail)
        go_wp2_with fail
        go_meet
        exact ⟨i, hi1, hi2, rfl, HX.out, HSI.out.no (Kp.drewN No _ _)⟩
  case rest =>
  obtain ⟨i2, hi1, hi2, rfl, hsu, hsr⟩ := hcut
  have HSU := Lib.hid hsu
  have HS2 := Lib.hid hsr
  clear hsu hsr HS1
  go_upto_block 2 with fail
  go_cut [13] from 50 to 68 (fun vj wx => ∃ j : Nat, i2 ≤ j + 1 ∧ j ≤ j0 ∧ vj = .int .i64 (j : Nat) ∧ scanDown (pGe l d1 fa) d1 i2 j0 = j ∧ Srt base g m cap n w d1 wx)
  case first =>
    go_wp2_with fail
    go_loopw [13] (fun vj wx => ∃ j : Nat, i2 ≤ j + 1 ∧ j ≤ j0 ∧ vj = .int .i64 (j : Nat) ∧ scanDown (pGe l d1 fa) d1 i2 j0 = scanDown (pGe l d1 fa) d1 i2 j ∧ Srt base g m cap n w d1 wx) (fun vj _ => (intOf vj).toNat)
    case atStart => exact ⟨j0, by omega, Nat.le_refl _, rfl, rfl, HS2.out⟩
    case round =>
      obtain ⟨j, hj1, hj2, rfl, hsc, hsx⟩ := hrel
      have HSC := Lib.hid hsc
      have HSI := Lib.hid hsx
      clear hsc hsx HS2
      by_cases hij : i2 ≤ j
      · have hd0 : decide ((i2 : Int) ≤ (j : Int)) = true := decide_eq_true (by omega)
        have hwj : IntKind.i64.wrap ((j : Int) - 1) = ((j - 1 : Nat) : Int) := by rw [IntKind.wrap_i64]; have := HIJ.out; omega
        obtain ⟨x, hx⟩ : ∃ x : Nat, d1[j]! = x := ⟨_, rfl⟩
        have hxm : j < m := by have := HIJ.out; omega
        have hxi : (j : Int) < (m : Nat) := by omega
        have gx := fun N os => HSI.out.cg hxm hx N os
        obtain ⟨y, hy⟩ : ∃ x : Nat, d1[fa]! = x := ⟨_, rfl⟩
        have hym : fa < m := by have := HIJ.out; omega
        have hyi : (fa : Int) < (m : Nat) := by omega
        have gy := fun N os => HSI.out.cg hym hy N os
        have HC := Lib.hid (fun N os => HB.out (grow (wr.drewN N) os) (HSI.out.k.no (kp_of_grow ⟨N, os, rfl⟩)) x y (by rw [← hx]; exact HSI.out.lt _ hxm) (by rw [← hy]; exact HSI.out.lt _ hym))
        obtain ⟨c, hc⟩ : ∃ c, befF l x y = c := ⟨_, rfl⟩
        rw [hc] at HC
        have HLT := Lib.hid (show ltB l d1[j]! d1[fa]! = decide (c < 0) by rw [hx, hy, ← hc]; rfl)
        clear hx hy hc
        by_cases hneg : c < 0
        · have hdn : decide (c < 0) = true := decide_eq_true hneg
          have HL := Lib.hid (show ltB l d1[j]! d1[fa]! = true by rw [HLT.out, hdn])
          go_wp2_with fail
          go_quiet_grown (first | (go_at_call 37; refine Calls.grown_of (HC.out _ _)))
          have HSX := Lib.hid (HSI.out.grown ⟨nq, osq, rfl⟩)
          clear HC HLT gx gy
          generalize grow (wr.drewN nq) osq = wq at *
          have HX := Lib.hid (show scanDown (pGe l d1 fa) d1 i2 j0 = j by rw [HSC.out, down_no (fun _ => by unfold pGe; rw [HL.out]; rfl)])
          go_wp2_with fail
          go_meet
          exact ⟨j, hj1, hj2, rfl, HX.out, HSX.out⟩
        · have hdn : decide (c < 0) = false := decide_eq_false hneg
          have HL := Lib.hid (show ltB l d1[j]! d1[fa]! = false by rw [HLT.out, hdn])
          go_wp2_with fail
          go_quiet_grown (first | (go_at_call 37; refine Calls.grown_of (HC.out _ _)))
          have HSX := Lib.hid (HSI.out.grown ⟨nq, osq, rfl⟩)
          clear HC HLT gx gy
          generalize grow (wr.drewN nq) osq = wq at *
          obtain ⟨j1, rfl⟩ : ∃ j1, j = j1 + 1 := ⟨j - 1, by have := HIJ.out; omega⟩
          have HX := Lib.hid (show scanDown (pGe l d1 fa) d1 i2 j0 = scanDown (pGe l d1 fa) d1 i2 j1 by rw [HSC.out, down_on hij (by unfold pGe; rw [HL.out]; rfl)])
          go_wp2_with fail
          go_roundw
          case rel => exact ⟨j1, by omega, by omega, by go_num, HX.out, HSX.out⟩
          case measure => simp [intOf]
      · have hd0 : decide ((i2 : Int) ≤ (j : Int)) = false := decide_eq_false (by omega)
        have HX := Lib.hid (show scanDown (pGe l d1 fa) d1 i2 j0 = j by rw [HSC.out, down_no (fun h => absurd h hij)])
        go_wp2_with fail
        go_quiet (fail)
        go_wp2_with fail
        go_meet
        exact ⟨j, hj1, hj2, rfl, HX.out, HSI.out.no (Kp.drewN No _ _)⟩
  case rest =>
  obtain ⟨j2, hj1, hj2, rfl, hsd, hsr⟩ := hcut
  have HSD := Lib.hid hsd
  have HS3 := Lib.hid hsr
  clear hsd hsr HS2
  by_cases hij : j2 < i2
  · have hij' : (j2 : Int) < (i2 : Int) := by omega
    have HEND := Lib.hid (show R = (j2, d1) by rw [← HR1.out, part_end HSU.out HSD.out hij])
    obtain ⟨xI, hxI⟩ : ∃ x : Nat, d1[j2]! = x := ⟨_, rfl⟩
    obtain ⟨xJ, hxJ⟩ : ∃ x : Nat, d1[fa]! = x := ⟨_, rfl⟩
    have hI : j2 < m := by have := HIJ.out; omega
    have hJ : fa < m := by omega
    have hI' : (j2 : Int) < (m : Nat) := by omega
    have hJ' : (fa : Int) < (m : Nat) := by omega
    have HSW := Lib.hid (show wc.ownsRow base 3 1 (.slice (some ⟨g, 0, none⟩) m cap) m (d1.toList.map natI) ∧ (d1.toList.map natI)[j2]? = some (.int .i64 (xI : Nat)) ∧ (d1.toList.map natI)[fa]? = some (.int .i64 (xJ : Nat)) ∧ ∀ W', W'.ownsRow base 3 1 (.slice (some ⟨g, 0, none⟩) m cap) m (((d1.toList.map natI).set j2 (.int .i64 (xJ : Nat))).set fa (.int .i64 (xI : Nat))) → Kp (One g) wc W' → Srt base g m cap n w (swp d1 j2 fa) W' from ⟨HS3.out.row, HS3.out.at_ hI hxI, HS3.out.at_ hJ hxJ, fun W' ho k => HS3.out.swp hI hJ hxI hxJ ho k⟩)
    have HLN := Lib.hid (show (d1.toList.map natI).length = m by have := HS3.out.row.1; simpa using this)
    clear hxI hxJ
    go_wp2_with fail
    refine wp_region_each (fun ix uR => match ix with | 0 => uR = .slice (some ⟨g, 0, none⟩) m cap | 1 => uR = .int .i64 (j2 : Nat) | 2 => uR = .slice (some ⟨g, 0, none⟩) m cap | 3 => uR = .int .i64 (fa : Nat) | 4 => uR = .slice (some ⟨g, 0, none⟩) m cap | 5 => uR = .int .i64 (fa : Nat) | 6 => uR = .pointer (some ⟨g, fa, none⟩) | 7 => uR = .int .i64 (xJ : Nat) | 8 => uR = .slice (some ⟨g, 0, none⟩) m cap | 9 => uR = .int .i64 (j2 : Nat) | 10 => uR = .pointer (some ⟨g, j2, none⟩) | 11 => uR = .int .i64 (xI : Nat) | 12 => uR = .pointer (some ⟨g, j2, none⟩) | 14 => uR = .pointer (some ⟨g, fa, none⟩) | _ => True) (Sx wc g base 3 m cap (d1.toList.map natI) j2 fa (.int .i64 (xI : Nat)) (.int .i64 (xJ : Nat)) 7 11 13 15) (by kernel_rfl) (by kernel_rfl) (by kernel_rfl) ?_ ?_ ?_
    · exact Sx.start HSW.out.1 HSW.out.2.1 HSW.out.2.2.1
    · refine ⟨?_, ?_, ?_, ?_, ?_, ?_, ?_, ?_, ?_, ?_, ?_, ?_, ?_, ?_, ?_, ?_, trivial⟩
      · intro r a w' hf hg hW hr hd K hK
        refine wpOp_of rfl rfl ?_
        have e0 : a.tmps.getD 0 undef = .slice (some ⟨g, 0, none⟩) m cap := hf.evalFree (by kernel_rfl)
        go_simp
        exact hK _ _ rfl (hW.upd 0 _ (by decide) (by decide))
      · intro r a w' hf hg hW hr hd K hK
        refine wpOp_of rfl rfl ?_
        have e0 : a.tmps.getD 13 undef = .int .i64 (j2 : Nat) := hf.evalFree (by kernel_rfl)
        go_simp
        exact hK _ _ rfl (hW.upd 1 _ (by decide) (by decide))
      · intro r a w' hf hg hW hr hd K hK
        refine wpOp_of rfl rfl ?_
        have e0 : a.tmps.getD 0 undef = .slice (some ⟨g, 0, none⟩) m cap := hf.evalFree (by kernel_rfl)
        go_simp
        exact hK _ _ rfl (hW.upd 2 _ (by decide) (by decide))
      · intro r a w' hf hg hW hr hd K hK
        refine wpOp_of rfl rfl ?_
        have e0 : a.tmps.getD 1 undef = .int .i64 (fa : Nat) := hf.evalFree (by kernel_rfl)
        go_simp
        exact hK _ _ rfl (hW.upd 3 _ (by decide) (by decide))
      · intro r a w' hf hg hW hr hd K hK
        refine wpOp_of rfl rfl ?_
        have e0 : a.tmps.getD 0 undef = .slice (some ⟨g, 0, none⟩) m cap := hf.evalFree (by kernel_rfl)
        go_simp
        exact hK _ _ rfl (hW.upd 4 _ (by decide) (by decide))
      · intro r a w' hf hg hW hr hd K hK
        refine wpOp_of rfl rfl ?_
        have e0 : a.tmps.getD 1 undef = .int .i64 (fa : Nat) := hf.evalFree (by kernel_rfl)
        go_simp
        exact hK _ _ rfl (hW.upd 5 _ (by decide) (by decide))
      · intro r a w' hf hg hW hr hd K hK
        refine wpOp_of rfl rfl ?_
        refine hf.depE hg hd 4 76 (by kernel_rfl) fun u0 e0 g0 h0 => ?_
        replace g0 : u0 = .slice (some ⟨g, 0, none⟩) m cap := g0
        subst g0
        refine hf.depE hg hd 5 77 (by kernel_rfl) fun u1 e1 g1 h1 => ?_
        replace g1 : u1 = .int .i64 (fa : Nat) := g1
        subst g1
        go_simp
        exact hK _ _ rfl (hW.upd 6 _ (by decide) (by decide))
      · intro r a w' hf hg hW hr hd K hK
        refine wpOp_of rfl rfl ?_
        refine hf.depE hg hd 6 78 (by kernel_rfl) fun u0 e0 g0 h0 => ?_
        replace g0 : u0 = .pointer (some ⟨g, fa, none⟩) := g0
        subst g0
        have z0 := hW.loadj hr
        go_simp
        exact hK _ _ rfl (hW.upd 7 _ (by decide) (by decide))
      · intro r a w' hf hg hW hr hd K hK
        refine wpOp_of rfl rfl ?_
        have e0 : a.tmps.getD 0 undef = .slice (some ⟨g, 0, none⟩) m cap := hf.evalFree (by kernel_rfl)
        go_simp
        exact hK _ _ rfl (hW.upd 8 _ (by decide) (by decide))
      · intro r a w' hf hg hW hr hd K hK
        refine wpOp_of rfl rfl ?_
        have e0 : a.tmps.getD 13 undef = .int .i64 (j2 : Nat) := hf.evalFree (by kernel_rfl)
        go_simp
        exact hK _ _ rfl (hW.upd 9 _ (by decide) (by decide))
      · intro r a w' hf hg hW hr hd K hK
        refine wpOp_of rfl rfl ?_
        refine hf.depE hg hd 8 80 (by kernel_rfl) fun u0 e0 g0 h0 => ?_
        replace g0 : u0 = .slice (some ⟨g, 0, none⟩) m cap := g0
        subst g0
        refine hf.depE hg hd 9 81 (by kernel_rfl) fun u1 e1 g1 h1 => ?_
        replace g1 : u1 = .int .i64 (j2 : Nat) := g1
        subst g1
        go_simp
        exact hK _ _ rfl (hW.upd 10 _ (by decide) (by decide))
      · intro r a w' hf hg hW hr hd K hK
        refine wpOp_of rfl rfl ?_
        refine hf.depE hg hd 10 82 (by kernel_rfl) fun u0 e0 g0 h0 => ?_
        replace g0 : u0 = .pointer (some ⟨g, j2, none⟩) := g0
        subst g0
        have z0 := hW.loadi hr
        go_simp
        exact hK _ _ rfl (hW.upd 11 _ (by decide) (by decide))
      · intro r a w' hf hg hW hr hd K hK
        refine wpOp_of rfl rfl ?_
        refine hf.depE hg hd 0 72 (by kernel_rfl) fun u0 e0 g0 h0 => ?_
        replace g0 : u0 = .slice (some ⟨g, 0, none⟩) m cap := g0
        subst g0
        refine hf.depE hg hd 1 73 (by kernel_rfl) fun u1 e1 g1 h1 => ?_
        replace g1 : u1 = .int .i64 (j2 : Nat) := g1
        subst g1
        go_simp
        exact hK _ _ rfl (hW.upd 12 _ (by decide) (by decide))
      · intro r a w' hf hg hW hr hd K hK
        refine wpOp_of rfl rfl ?_
        refine hf.depE hg hd 12 84 (by kernel_rfl) fun u0 e0 g0 h0 => ?_
        replace g0 : u0 = .pointer (some ⟨g, j2, none⟩) := g0
        subst g0
        refine hf.depE hg hd 7 79 (by kernel_rfl) fun u1 e1 g1 h1 => ?_
        replace g1 : u1 = .int .i64 (xJ : Nat) := g1
        subst g1
        refine hf.depE hg hd 11 83 (by kernel_rfl) fun uo eo go ho => ?_
        obtain ⟨old, y0⟩ := hW.old (k := j2) hI HLN.out
        have y1 := hW.free j2
        go_simp
        exact hK undef _ trivial (hW.sta hr (by rw [ho]; simp) (by decide) undef)
      · intro r a w' hf hg hW hr hd K hK
        refine wpOp_of rfl rfl ?_
        refine hf.depE hg hd 2 74 (by kernel_rfl) fun u0 e0 g0 h0 => ?_
        replace g0 : u0 = .slice (some ⟨g, 0, none⟩) m cap := g0
        subst g0
        refine hf.depE hg hd 3 75 (by kernel_rfl) fun u1 e1 g1 h1 => ?_
        replace g1 : u1 = .int .i64 (fa : Nat) := g1
        subst g1
        go_simp
        exact hK _ _ rfl (hW.upd 14 _ (by decide) (by decide))
      · intro r a w' hf hg hW hr hd K hK
        refine wpOp_of rfl rfl ?_
        refine hf.depE hg hd 14 85 (by kernel_rfl) fun u0 e0 g0 h0 => ?_
        replace g0 : u0 = .pointer (some ⟨g, fa, none⟩) := g0
        subst g0
        refine hf.depE hg hd 11 83 (by kernel_rfl) fun u1 e1 g1 h1 => ?_
        replace g1 : u1 = .int .i64 (xI : Nat) := g1
        subst g1
        refine hf.depE hg hd 7 79 (by kernel_rfl) fun uo eo go ho => ?_
        obtain ⟨old, y0⟩ := hW.old (k := fa) hJ HLN.out
        have y1 := hW.free fa
        go_simp
        exact hK undef _ trivial (hW.stb hr (by rw [ho]; simp) (by decide) undef)
    intro r' w9 hg hW hr'
    simp only [List.length_cons, List.length_nil, Nat.reduceAdd, List.range_succ, List.range_zero, List.nil_append, List.cons_append, List.map_cons, List.map_nil, putAll, Act.put, List.setIfInBounds_toArray, List.set_cons_succ, List.set_cons_zero]
    have ho9 := hW.fin (hr' 13 (by decide)) (hr' 15 (by decide))
    have HS9 := Lib.hid (HSW.out.2.2.2 _ ho9 hW.kp)
    clear hg hW hr' ho9 HSW HLN hI hJ hI' hJ'
    go_wp2_with fail
    exact bodyPost_ret (v := .tuple #[.int .i64 (j2 : Nat), .bool true]) (by simp [results, Try.results93, go_sem]) rfl ⟨true, by rw [HEND.out], by rw [HEND.out]; exact HS9.out⟩
  · have hij' : (i2 : Int) ≤ (j2 : Int) := by omega
    have hlt2 := part_lt HSU.out HSD.out (by omega) (by have := HIJ.out; omega)
    have HON := Lib.hid (show partLoop (ltB l) fa (i2 + 1) (j2 - 1) (swp d1 i2 j2) = R by rw [← part_on HSU.out HSD.out (by omega)]; exact HR1.out)
    have hwi2 : IntKind.i64.wrap ((i2 : Int) + 1) = ((i2 + 1 : Nat) : Int) := by rw [IntKind.wrap_i64]; have := HIJ.out; omega
    have hwj2 : IntKind.i64.wrap ((j2 : Int) - 1) = ((j2 - 1 : Nat) : Int) := by rw [IntKind.wrap_i64]; have := HIJ.out; omega
    obtain ⟨xI, hxI⟩ : ∃ x : Nat, d1[i2]! = x := ⟨_, rfl⟩
    obtain ⟨xJ, hxJ⟩ : ∃ x : Nat, d1[j2]! = x := ⟨_, rfl⟩
    have hI : i2 < m := by have := HIJ.out; omega
    have hJ : j2 < m := by have := HIJ.out; omega
    have hI' : (i2 : Int) < (m : Nat) := by omega
    have hJ' : (j2 : Int) < (m : Nat) := by omega
    have HSW := Lib.hid (show wc.ownsRow base 3 1 (.slice (some ⟨g, 0, none⟩) m cap) m (d1.toList.map natI) ∧ (d1.toList.map natI)[i2]? = some (.int .i64 (xI : Nat)) ∧ (d1.toList.map natI)[j2]? = some (.int .i64 (xJ : Nat)) ∧ ∀ W', W'.ownsRow base 3 1 (.slice (some ⟨g, 0, none⟩) m cap) m (((d1.toList.map natI).set i2 (.int .i64 (xJ : Nat))).set j2 (.int .i64 (xI : Nat))) → Kp (One g) wc W' → Srt base g m cap n w (swp d1 i2 j2) W' from ⟨HS3.out.row, HS3.out.at_ hI hxI, HS3.out.at_ hJ hxJ, fun W' ho k => HS3.out.swp hI hJ hxI hxJ ho k⟩)
    have HLN := Lib.hid (show (d1.toList.map natI).length = m by have := HS3.out.row.1; simpa using this)
    clear hxI hxJ
    go_wp2_with fail
    refine wp_region_each (fun ix uR => match ix with | 0 => uR = .slice (some ⟨g, 0, none⟩) m cap | 1 => uR = .int .i64 (i2 : Nat) | 2 => uR = .slice (some ⟨g, 0, none⟩) m cap | 3 => uR = .int .i64 (j2 : Nat) | 4 => uR = .slice (some ⟨g, 0, none⟩) m cap | 5 => uR = .int .i64 (j2 : Nat) | 6 => uR = .pointer (some ⟨g, j2, none⟩) | 7 => uR = .int .i64 (xJ : Nat) | 8 => uR = .slice (some ⟨g, 0, none⟩) m cap | 9 => uR = .int .i64 (i2 : Nat) | 10 => uR = .pointer (some ⟨g, i2, none⟩) | 11 => uR = .int .i64 (xI : Nat) | 12 => uR = .pointer (some ⟨g, i2, none⟩) | 14 => uR = .pointer (some ⟨g, j2, none⟩) | _ => True) (Sx wc g base 3 m cap (d1.toList.map natI) i2 j2 (.int .i64 (xI : Nat)) (.int .i64 (xJ : Nat)) 7 11 13 15) (by kernel_rfl) (by kernel_rfl) (by kernel_rfl) ?_ ?_ ?_
    · exact Sx.start HSW.out.1 HSW.out.2.1 HSW.out.2.2.1
    · refine ⟨?_, ?_, ?_, ?_, ?_, ?_, ?_, ?_, ?_, ?_, ?_, ?_, ?_, ?_, ?_, ?_, trivial⟩
      · intro r a w' hf hg hW hr hd K hK
        refine wpOp_of rfl rfl ?_
        have e0 : a.tmps.getD 0 undef = .slice (some ⟨g, 0, none⟩) m cap := hf.evalFree (by kernel_rfl)
        go_simp
        exact hK _ _ rfl (hW.upd 0 _ (by decide) (by decide))
      · intro r a w' hf hg hW hr hd K hK
        refine wpOp_of rfl rfl ?_
        have e0 : a.tmps.getD 12 undef = .int .i64 (i2 : Nat) := hf.evalFree (by kernel_rfl)
        go_simp
        exact hK _ _ rfl (hW.upd 1 _ (by decide) (by decide))
      · intro r a w' hf hg hW hr hd K hK
        refine wpOp_of rfl rfl ?_
        have e0 : a.tmps.getD 0 undef = .slice (some ⟨g, 0, none⟩) m cap := hf.evalFree (by kernel_rfl)
        go_simp
        exact hK _ _ rfl (hW.upd 2 _ (by decide) (by decide))
      · intro r a w' hf hg hW hr hd K hK
        refine wpOp_of rfl rfl ?_
        have e0 : a.tmps.getD 13 undef = .int .i64 (j2 : Nat) := hf.evalFree (by kernel_rfl)
        go_simp
        exact hK _ _ rfl (hW.upd 3 _ (by decide) (by decide))
      · intro r a w' hf hg hW hr hd K hK
        refine wpOp_of rfl rfl ?_
        have e0 : a.tmps.getD 0 undef = .slice (some ⟨g, 0, none⟩) m cap := hf.evalFree (by kernel_rfl)
        go_simp
        exact hK _ _ rfl (hW.upd 4 _ (by decide) (by decide))
      · intro r a w' hf hg hW hr hd K hK
        refine wpOp_of rfl rfl ?_
        have e0 : a.tmps.getD 13 undef = .int .i64 (j2 : Nat) := hf.evalFree (by kernel_rfl)
        go_simp
        exact hK _ _ rfl (hW.upd 5 _ (by decide) (by decide))
      · intro r a w' hf hg hW hr hd K hK
        refine wpOp_of rfl rfl ?_
        refine hf.depE hg hd 4 91 (by kernel_rfl) fun u0 e0 g0 h0 => ?_
        replace g0 : u0 = .slice (some ⟨g, 0, none⟩) m cap := g0
        subst g0
        refine hf.depE hg hd 5 92 (by kernel_rfl) fun u1 e1 g1 h1 => ?_
        replace g1 : u1 = .int .i64 (j2 : Nat) := g1
        subst g1
        go_simp
        exact hK _ _ rfl (hW.upd 6 _ (by decide) (by decide))
      · intro r a w' hf hg hW hr hd K hK
        refine wpOp_of rfl rfl ?_
        refine hf.depE hg hd 6 93 (by kernel_rfl) fun u0 e0 g0 h0 => ?_
        replace g0 : u0 = .pointer (some ⟨g, j2, none⟩) := g0
        subst g0
        have z0 := hW.loadj hr
        go_simp
        exact hK _ _ rfl (hW.upd 7 _ (by decide) (by decide))
      · intro r a w' hf hg hW hr hd K hK
        refine wpOp_of rfl rfl ?_
        have e0 : a.tmps.getD 0 undef = .slice (some ⟨g, 0, none⟩) m cap := hf.evalFree (by kernel_rfl)
        go_simp
        exact hK _ _ rfl (hW.upd 8 _ (by decide) (by decide))
      · intro r a w' hf hg hW hr hd K hK
        refine wpOp_of rfl rfl ?_
        have e0 : a.tmps.getD 12 undef = .int .i64 (i2 : Nat) := hf.evalFree (by kernel_rfl)
        go_simp
        exact hK _ _ rfl (hW.upd 9 _ (by decide) (by decide))
      · intro r a w' hf hg hW hr hd K hK
        refine wpOp_of rfl rfl ?_
        refine hf.depE hg hd 8 95 (by kernel_rfl) fun u0 e0 g0 h0 => ?_
        replace g0 : u0 = .slice (some ⟨g, 0, none⟩) m cap := g0
        subst g0
        refine hf.depE hg hd 9 96 (by kernel_rfl) fun u1 e1 g1 h1 => ?_
        replace g1 : u1 = .int .i64 (i2 : Nat) := g1
        subst g1
        go_simp
        exact hK _ _ rfl (hW.upd 10 _ (by decide) (by decide))
      · intro r a w' hf hg hW hr hd K hK
        refine wpOp_of rfl rfl ?_
        refine hf.depE hg hd 10 97 (by kernel_rfl) fun u0 e0 g0 h0 => ?_
        replace g0 : u0 = .pointer (some ⟨g, i2, none⟩) := g0
        subst g0
        have z0 := hW.loadi hr
        go_simp
        exact hK _ _ rfl (hW.upd 11 _ (by decide) (by decide))
      · intro r a w' hf hg hW hr hd K hK
        refine wpOp_of rfl rfl ?_
        refine hf.depE hg hd 0 87 (by kernel_rfl) fun u0 e0 g0 h0 => ?_
        replace g0 : u0 = .slice (some ⟨g, 0, none⟩) m cap := g0
        subst g0
        refine hf.depE hg hd 1 88 (by kernel_rfl) fun u1 e1 g1 h1 => ?_
        replace g1 : u1 = .int .i64 (i2 : Nat) := g1
        subst g1
        go_simp
        exact hK _ _ rfl (hW.upd 12 _ (by decide) (by decide))
      · intro r a w' hf hg hW hr hd K hK
        refine wpOp_of rfl rfl ?_
        refine hf.depE hg hd 12 99 (by kernel_rfl) fun u0 e0 g0 h0 => ?_
        replace g0 : u0 = .pointer (some ⟨g, i2, none⟩) := g0
        subst g0
        refine hf.depE hg hd 7 94 (by kernel_rfl) fun u1 e1 g1 h1 => ?_
        replace g1 : u1 = .int .i64 (xJ : Nat) := g1
        subst g1
        refine hf.depE hg hd 11 98 (by kernel_rfl) fun uo eo go ho => ?_
        obtain ⟨old, y0⟩ := hW.old (k := i2) hI HLN.out
        have y1 := hW.free i2
        go_simp
        exact hK undef _ trivial (hW.sta hr (by rw [ho]; simp) (by decide) undef)
      · intro r a w' hf hg hW hr hd K hK
        refine wpOp_of rfl rfl ?_
        refine hf.depE hg hd 2 89 (by kernel_rfl) fun u0 e0 g0 h0 => ?_
        replace g0 : u0 = .slice (some ⟨g, 0, none⟩) m cap := g0
        subst g0
        refine hf.depE hg hd 3 90 (by kernel_rfl) fun u1 e1 g1 h1 => ?_
        replace g1 : u1 = .int .i64 (j2 : Nat) := g1
        subst g1
        go_simp
        exact hK _ _ rfl (hW.upd 14 _ (by decide) (by decide))
      · intro r a w' hf hg hW hr hd K hK
        refine wpOp_of rfl rfl ?_
        refine hf.depE hg hd 14 100 (by kernel_rfl) fun u0 e0 g0 h0 => ?_
        replace g0 : u0 = .pointer (some ⟨g, j2, none⟩) := g0
        subst g0
        refine hf.depE hg hd 11 98 (by kernel_rfl) fun u1 e1 g1 h1 => ?_
        replace g1 : u1 = .int .i64 (xI : Nat) := g1
        subst g1
        refine hf.depE hg hd 7 94 (by kernel_rfl) fun uo eo go ho => ?_
        obtain ⟨old, y0⟩ := hW.old (k := j2) hJ HLN.out
        have y1 := hW.free j2
        go_simp
        exact hK undef _ trivial (hW.stb hr (by rw [ho]; simp) (by decide) undef)
    intro r' w9 hg hW hr'
    simp only [List.length_cons, List.length_nil, Nat.reduceAdd, List.range_succ, List.range_zero, List.nil_append, List.cons_append, List.map_cons, List.map_nil, putAll, Act.put, List.setIfInBounds_toArray, List.set_cons_succ, List.set_cons_zero]
    have ho9 := hW.fin (hr' 13 (by decide)) (hr' 15 (by decide))
    have HS9 := Lib.hid (HSW.out.2.2.2 _ ho9 hW.kp)
    clear hg hW hr' ho9 HSW HLN hI hJ hI' hJ'
    go_wp2_with fail
    go_loopw [12, 13] (fun vi vj wr => ∃ (i j : Nat) (dj : Array Nat), fa + 1 ≤ i ∧ i ≤ j + 1 ∧ j + 1 ≤ fb ∧ vi = .int .i64 (i : Nat) ∧ vj = .int .i64 (j : Nat) ∧ partLoop (ltB l) fa i j dj = R ∧ Srt base g m cap n w dj wr) (fun vi vj _ => (intOf vj + 2 - intOf vi).toNat)
    case atStart => exact ⟨i2 + 1, j2 - 1, swp d1 i2 j2, by have := HIJ.out; omega, by have := HIJ.out; omega, by have := HIJ.out; omega, rfl, rfl, HON.out, HS9.out⟩
    case round =>
      clear HSU HSD HS3 HON HS9 HR1 hij hij' hwi2 hwj2 hi1 hi2 hj1 hj2 hlt2
      obtain ⟨i3, j3, dj, hi3, hij3, hj3, rfl, rfl, hor, hsr⟩ := hrel
      have HR1 := Lib.hid hor
      have HS := Lib.hid hsr
      clear hor hsr
      go_upto_block 6 with fail
      go_cut [12] from 105 to 122 (fun vi wx => ∃ i : Nat, i3 ≤ i ∧ i ≤ j3 + 1 ∧ vi = .int .i64 (i : Nat) ∧ scanUp (pLt l dj fa) dj j3 i3 = i ∧ Srt base g m cap n w dj wx)
      case first =>
        go_wp2_with fail
        go_loopw [12] (fun vi wx => ∃ i : Nat, i3 ≤ i ∧ i ≤ j3 + 1 ∧ vi = .int .i64 (i : Nat) ∧ scanUp (pLt l dj fa) dj j3 i3 = scanUp (pLt l dj fa) dj j3 i ∧ Srt base g m cap n w dj wx) (fun vi _ => j3 + 2 - (intOf vi).toNat)
        case atStart => exact ⟨i3, Nat.le_refl _, by have := HIJ.out; omega, rfl, rfl, HS.out⟩
        case round =>
          obtain ⟨i, hi1, hi2, rfl, hsc, hsx⟩ := hrel
          have HSC := Lib.hid hsc
          have HSI := Lib.hid hsx
          clear hsc hsx HS
          have hwi : IntKind.i64.wrap ((i : Int) + 1) = ((i + 1 : Nat) : Int) := by rw [IntKind.wrap_i64]; have := HIJ.out; omega
          by_cases hij : i ≤ j3
          · have hd0 : decide ((i : Int) ≤ (j3 : Int)) = true := decide_eq_true (by omega)
            obtain ⟨x, hx⟩ : ∃ x : Nat, dj[i]! = x := ⟨_, rfl⟩
            have hxm : i < m := by have := HIJ.out; omega
            have hxi : (i : Int) < (m : Nat) := by omega
            have gx := fun N os => HSI.out.cg hxm hx N os
            obtain ⟨y, hy⟩ : ∃ x : Nat, dj[fa]! = x := ⟨_, rfl⟩
            have hym : fa < m := by have := HIJ.out; omega
            have hyi : (fa : Int) < (m : Nat) := by omega
            have gy := fun N os => HSI.out.cg hym hy N os
            have HC := Lib.hid (fun N os => HB.out (grow (wr.drewN N) os) (HSI.out.k.no (kp_of_grow ⟨N, os, rfl⟩)) x y (by rw [← hx]; exact HSI.out.lt _ hxm) (by rw [← hy]; exact HSI.out.lt _ hym))
            obtain ⟨c, hc⟩ : ∃ c, befF l x y = c := ⟨_, rfl⟩
            rw [hc] at HC
            have HLT := Lib.hid (show ltB l dj[i]! dj[fa]! = decide (c < 0) by rw [hx, hy, ← hc]; rfl)
            clear hx hy hc
            by_cases hneg : c < 0
            · have hdn : decide (c < 0) = true := decide_eq_true hneg
              have HL := Lib.hid (show ltB l dj[i]! dj[fa]! = true by rw [HLT.out, hdn])
              go_wp2_with fail
              go_quiet_grown (first | (go_at_call 37; refine Calls.grown_of (HC.out _ _)))
              have HSX := Lib.hid (HSI.out.grown ⟨nq, osq, rfl⟩)
              clear HC HLT gx gy
              generalize grow (wr.drewN nq) osq = wq at *
              have HX := Lib.hid (show scanUp (pLt l dj fa) dj j3 i3 = scanUp (pLt l dj fa) dj j3 (i + 1) by rw [HSC.out, up_on hij HL.out])
              go_wp2_with fail
              go_roundw
              case rel => exact ⟨i + 1, by omega, by omega, by go_num, HX.out, HSX.out⟩
              case measure => simp [intOf]; omega
            · have hdn : decide (c < 0) = false := decide_eq_false hneg
              have HL := Lib.hid (show ltB l dj[i]! dj[fa]! = false by rw [HLT.out, hdn])
              go_wp2_with fail
              go_quiet_grown (first | (go_at_call 37; refine Calls.grown_of (HC.out _ _)))
              have HSX := Lib.hid (HSI.out.grown ⟨nq, osq, rfl⟩)
              clear HC HLT gx gy
              generalize grow (wr.drewN nq) osq = wq at *
              have HX := Lib.hid (show scanUp (pLt l dj fa) dj j3 i3 = i by rw [HSC.out, up_no (p := pLt l dj fa) (fun _ => HL.out)])
              go_wp2_with fail
              go_meet
              exact ⟨i, hi1, hi2, rfl, HX.out, HSX.out⟩
          · have hd0 : decide ((i : Int) ≤ (j3 : Int)) = false := decide_eq_false (by omega)
            have HX := Lib.hid (show scanUp (pLt l dj fa) dj j3 i3 = i by rw [HSC.out, up_no (fun h => absurd h hij)])
            go_wp2_with fail
            go_quiet (fail)
            go_wp2_with fail
            go_meet
            exact ⟨i, hi1, hi2, rfl, HX.out, HSI.out.no (Kp.drewN No _ _)⟩
      case rest =>
      obtain ⟨i4, hi1, hi2, rfl, hsu, hsr⟩ := hcut
      have HSU := Lib.hid hsu
      have HS2 := Lib.hid hsr
      clear hsu hsr HS
      go_upto_block 8 with fail
      go_cut [13] from 123 to 141 (fun vj wx => ∃ j : Nat, i4 ≤ j + 1 ∧ j ≤ j3 ∧ vj = .int .i64 (j : Nat) ∧ scanDown (pGe l dj fa) dj i4 j3 = j ∧ Srt base g m cap n w dj wx)
      case first =>
        go_wp2_with fail
        go_loopw [13] (fun vj wx => ∃ j : Nat, i4 ≤ j + 1 ∧ j ≤ j3 ∧ vj = .int .i64 (j : Nat) ∧ scanDown (pGe l dj fa) dj i4 j3 = scanDown (pGe l dj fa) dj i4 j ∧ Srt base g m cap n w dj wx) (fun vj _ => (intOf vj).toNat)
        case atStart => exact ⟨j3, by omega, Nat.le_refl _, rfl, rfl, HS2.out⟩
        case round =>
          obtain ⟨j, hj1, hj2, rfl, hsc, hsx⟩ := hrel
          have HSC := Lib.hid hsc
          have HSI := Lib.hid hsx
          clear hsc hsx HS2
          by_cases hij : i4 ≤ j
          · have hd0 : decide ((i4 : Int) ≤ (j : Int)) = true := decide_eq_true (by omega)
            have hwj : IntKind.i64.wrap ((j : Int) - 1) = ((j - 1 : Nat) : Int) := by rw [IntKind.wrap_i64]; have := HIJ.out; omega
            obtain ⟨x, hx⟩ : ∃ x : Nat, dj[j]! = x := ⟨_, rfl⟩
            have hxm : j < m := by have := HIJ.out; omega
            have hxi : (j : Int) < (m : Nat) := by omega
            have gx := fun N os => HSI.out.cg hxm hx N os
            obtain ⟨y, hy⟩ : ∃ x : Nat, dj[fa]! = x := ⟨_, rfl⟩
            have hym : fa < m := by have := HIJ.out; omega
            have hyi : (fa : Int) < (m : Nat) := by omega
            have gy := fun N os => HSI.out.cg hym hy N os
            have HC := Lib.hid (fun N os => HB.out (grow (wr.drewN N) os) (HSI.out.k.no (kp_of_grow ⟨N, os, rfl⟩)) x y (by rw [← hx]; exact HSI.out.lt _ hxm) (by rw [← hy]; exact HSI.out.lt _ hym))
            obtain ⟨c, hc⟩ : ∃ c, befF l x y = c := ⟨_, rfl⟩
            rw [hc] at HC
            have HLT := Lib.hid (show ltB l dj[j]! dj[fa]! = decide (c < 0) by rw [hx, hy, ← hc]; rfl)
            clear hx hy hc
            by_cases hneg : c < 0
            · have hdn : decide (c < 0) = true := decide_eq_true hneg
              have HL := Lib.hid (show ltB l dj[j]! dj[fa]! = true by rw [HLT.out, hdn])
              go_wp2_with fail
              go_quiet_grown (first | (go_at_call 37; refine Calls.grown_of (HC.out _ _)))
              have HSX := Lib.hid (HSI.out.grown ⟨nq, osq, rfl⟩)
              clear HC HLT gx gy
              generalize grow (wr.drewN nq) osq = wq at *
              have HX := Lib.hid (show scanDown (pGe l dj fa) dj i4 j3 = j by rw [HSC.out, down_no (fun _ => by unfold pGe; rw [HL.out]; rfl)])
              go_wp2_with fail
              go_meet
              exact ⟨j, hj1, hj2, rfl, HX.out, HSX.out⟩
            · have hdn : decide (c < 0) = false := decide_eq_false hneg
              have HL := Lib.hid (show ltB l dj[j]! dj[fa]! = false by rw [HLT.out, hdn])
              go_wp2_with fail
              go_quiet_grown (first | (go_at_call 37; refine Calls.grown_of (HC.out _ _)))
              have HSX := Lib.hid (HSI.out.grown ⟨nq, osq, rfl⟩)
              clear HC HLT gx gy
              generalize grow (wr.drewN nq) osq = wq at *
              obtain ⟨j1, rfl⟩ : ∃ j1, j = j1 + 1 := ⟨j - 1, by have := HIJ.out; omega⟩
              have HX := Lib.hid (show scanDown (pGe l dj fa) dj i4 j3 = scanDown (pGe l dj fa) dj i4 j1 by rw [HSC.out, down_on hij (by unfold pGe; rw [HL.out]; rfl)])
              go_wp2_with fail
              go_roundw
              case rel => exact ⟨j1, by omega, by omega, by go_num, HX.out, HSX.out⟩
              case measure => simp [intOf]
          · have hd0 : decide ((i4 : Int) ≤ (j : Int)) = false := decide_eq_false (by omega)
            have HX := Lib.hid (show scanDown (pGe l dj fa) dj i4 j3 = j by rw [HSC.out, down_no (fun h => absurd h hij)])
            go_wp2_with fail
            go_quiet (fail)
            go_wp2_with fail
            go_meet
            exact ⟨j, hj1, hj2, rfl, HX.out, HSI.out.no (Kp.drewN No _ _)⟩
      case rest =>
      obtain ⟨j4, hj1, hj2, rfl, hsd, hsr⟩ := hcut
      have HSD := Lib.hid hsd
      have HS3 := Lib.hid hsr
      clear hsd hsr HS2
      by_cases hij : j4 < i4
      · have hij' : (j4 : Int) < (i4 : Int) := by omega
        have HEND := Lib.hid (show R = (j4, dj) by rw [← HR1.out, part_end HSU.out HSD.out hij])
        obtain ⟨xI, hxI⟩ : ∃ x : Nat, dj[j4]! = x := ⟨_, rfl⟩
        obtain ⟨xJ, hxJ⟩ : ∃ x : Nat, dj[fa]! = x := ⟨_, rfl⟩
        have hI : j4 < m := by omega
        have hJ : fa < m := by omega
        have hI' : (j4 : Int) < (m : Nat) := by omega
        have hJ' : (fa : Int) < (m : Nat) := by omega
        have HSW := Lib.hid (show wc.ownsRow base 3 1 (.slice (some ⟨g, 0, none⟩) m cap) m (dj.toList.map natI) ∧ (dj.toList.map natI)[j4]? = some (.int .i64 (xI : Nat)) ∧ (dj.toList.map natI)[fa]? = some (.int .i64 (xJ : Nat)) ∧ ∀ W', W'.ownsRow base 3 1 (.slice (some ⟨g, 0, none⟩) m cap) m (((dj.toList.map natI).set j4 (.int .i64 (xJ : Nat))).set fa (.int .i64 (xI : Nat))) → Kp (One g) wc W' → Srt base g m cap n w (swp dj j4 fa) W' from ⟨HS3.out.row, HS3.out.at_ hI hxI, HS3.out.at_ hJ hxJ, fun W' ho k => HS3.out.swp hI hJ hxI hxJ ho k⟩)
        have HLN := Lib.hid (show (dj.toList.map natI).length = m by have := HS3.out.row.1; simpa using this)
        clear hxI hxJ
        go_wp2_with fail
        refine wp_region_each (fun ix uR => match ix with | 0 => uR = .slice (some ⟨g, 0, none⟩) m cap | 1 => uR = .int .i64 (j4 : Nat) | 2 => uR = .slice (some ⟨g, 0, none⟩) m cap | 3 => uR = .int .i64 (fa : Nat) | 4 => uR = .slice (some ⟨g, 0, none⟩) m cap | 5 => uR = .int .i64 (fa : Nat) | 6 => uR = .pointer (some ⟨g, fa, none⟩) | 7 => uR = .int .i64 (xJ : Nat) | 8 => uR = .slice (some ⟨g, 0, none⟩) m cap | 9 => uR = .int .i64 (j4 : Nat) | 10 => uR = .pointer (some ⟨g, j4, none⟩) | 11 => uR = .int .i64 (xI : Nat) | 12 => uR = .pointer (some ⟨g, j4, none⟩) | 14 => uR = .pointer (some ⟨g, fa, none⟩) | _ => True) (Sx wc g base 3 m cap (dj.toList.map natI) j4 fa (.int .i64 (xI : Nat)) (.int .i64 (xJ : Nat)) 7 11 13 15) (by kernel_rfl) (by kernel_rfl) (by kernel_rfl) ?_ ?_ ?_
        · exact Sx.start HSW.out.1 HSW.out.2.1 HSW.out.2.2.1
        · refine ⟨?_, ?_, ?_, ?_, ?_, ?_, ?_, ?_, ?_, ?_, ?_, ?_, ?_, ?_, ?_, ?_, trivial⟩
          · intro r a w' hf hg hW hr hd K hK
            refine wpOp_of rfl rfl ?_
            have e0 : a.tmps.getD 0 undef = .slice (some ⟨g, 0, none⟩) m cap := hf.evalFree (by kernel_rfl)
            go_simp
            exact hK _ _ rfl (hW.upd 0 _ (by decide) (by decide))
          · intro r a w' hf hg hW hr hd K hK
            refine wpOp_of rfl rfl ?_
            have e0 : a.tmps.getD 13 undef = .int .i64 (j4 : Nat) := hf.evalFree (by kernel_rfl)
            go_simp
            exact hK _ _ rfl (hW.upd 1 _ (by decide) (by decide))
          · intro r a w' hf hg hW hr hd K hK
            refine wpOp_of rfl rfl ?_
            have e0 : a.tmps.getD 0 undef = .slice (some ⟨g, 0, none⟩) m cap := hf.evalFree (by kernel_rfl)
            go_simp
            exact hK _ _ rfl (hW.upd 2 _ (by decide) (by decide))
          · intro r a w' hf hg hW hr hd K hK
            refine wpOp_of rfl rfl ?_
            have e0 : a.tmps.getD 1 undef = .int .i64 (fa : Nat) := hf.evalFree (by kernel_rfl)
            go_simp
            exact hK _ _ rfl (hW.upd 3 _ (by decide) (by decide))
          · intro r a w' hf hg hW hr hd K hK
            refine wpOp_of rfl rfl ?_
            have e0 : a.tmps.getD 0 undef = .slice (some ⟨g, 0, none⟩) m cap := hf.evalFree (by kernel_rfl)
            go_simp
            exact hK _ _ rfl (hW.upd 4 _ (by decide) (by decide))
          · intro r a w' hf hg hW hr hd K hK
            refine wpOp_of rfl rfl ?_
            have e0 : a.tmps.getD 1 undef = .int .i64 (fa : Nat) := hf.evalFree (by kernel_rfl)
            go_simp
            exact hK _ _ rfl (hW.upd 5 _ (by decide) (by decide))
          · intro r a w' hf hg hW hr hd K hK
            refine wpOp_of rfl rfl ?_
            refine hf.depE hg hd 4 167 (by kernel_rfl) fun u0 e0 g0 h0 => ?_
            replace g0 : u0 = .slice (some ⟨g, 0, none⟩) m cap := g0
            subst g0
            refine hf.depE hg hd 5 168 (by kernel_rfl) fun u1 e1 g1 h1 => ?_
            replace g1 : u1 = .int .i64 (fa : Nat) := g1
            subst g1
            go_simp
            exact hK _ _ rfl (hW.upd 6 _ (by decide) (by decide))
          · intro r a w' hf hg hW hr hd K hK
            refine wpOp_of rfl rfl ?_
            refine hf.depE hg hd 6 169 (by kernel_rfl) fun u0 e0 g0 h0 => ?_
            replace g0 : u0 = .pointer (some ⟨g, fa, none⟩) := g0
            subst g0
            have z0 := hW.loadj hr
            go_simp
            exact hK _ _ rfl (hW.upd 7 _ (by decide) (by decide))
          · intro r a w' hf hg hW hr hd K hK
            refine wpOp_of rfl rfl ?_
            have e0 : a.tmps.getD 0 undef = .slice (some ⟨g, 0, none⟩) m cap := hf.evalFree (by kernel_rfl)
            go_simp
            exact hK _ _ rfl (hW.upd 8 _ (by decide) (by decide))
          · intro r a w' hf hg hW hr hd K hK
            refine wpOp_of rfl rfl ?_
            have e0 : a.tmps.getD 13 undef = .int .i64 (j4 : Nat) := hf.evalFree (by kernel_rfl)
            go_simp
            exact hK _ _ rfl (hW.upd 9 _ (by decide) (by decide))
          · intro r a w' hf hg hW hr hd K hK
            refine wpOp_of rfl rfl ?_
            refine hf.depE hg hd 8 171 (by kernel_rfl) fun u0 e0 g0 h0 => ?_
            replace g0 : u0 = .slice (some ⟨g, 0, none⟩) m cap := g0
            subst g0
            refine hf.depE hg hd 9 172 (by kernel_rfl) fun u1 e1 g1 h1 => ?_
            replace g1 : u1 = .int .i64 (j4 : Nat) := g1
            subst g1
            go_simp
            exact hK _ _ rfl (hW.upd 10 _ (by decide) (by decide))
          · intro r a w' hf hg hW hr hd K hK
            refine wpOp_of rfl rfl ?_
            refine hf.depE hg hd 10 173 (by kernel_rfl) fun u0 e0 g0 h0 => ?_
            replace g0 : u0 = .pointer (some ⟨g, j4, none⟩) := g0
            subst g0
            have z0 := hW.loadi hr
            go_simp
            exact hK _ _ rfl (hW.upd 11 _ (by decide) (by decide))
          · intro r a w' hf hg hW hr hd K hK
            refine wpOp_of rfl rfl ?_
            refine hf.depE hg hd 0 163 (by kernel_rfl) fun u0 e0 g0 h0 => ?_
            replace g0 : u0 = .slice (some ⟨g, 0, none⟩) m cap := g0
            subst g0
            refine hf.depE hg hd 1 164 (by kernel_rfl) fun u1 e1 g1 h1 => ?_
            replace g1 : u1 = .int .i64 (j4 : Nat) := g1
            subst g1
            go_simp
            exact hK _ _ rfl (hW.upd 12 _ (by decide) (by decide))
          · intro r a w' hf hg hW hr hd K hK
            refine wpOp_of rfl rfl ?_
            refine hf.depE hg hd 12 175 (by kernel_rfl) fun u0 e0 g0 h0 => ?_
            replace g0 : u0 = .pointer (some ⟨g, j4, none⟩) := g0
            subst g0
            refine hf.depE hg hd 7 170 (by kernel_rfl) fun u1 e1 g1 h1 => ?_
            replace g1 : u1 = .int .i64 (xJ : Nat) := g1
            subst g1
            refine hf.depE hg hd 11 174 (by kernel_rfl) fun uo eo go ho => ?_
            obtain ⟨old, y0⟩ := hW.old (k := j4) hI HLN.out
            have y1 := hW.free j4
            go_simp
            exact hK undef _ trivial (hW.sta hr (by rw [ho]; simp) (by decide) undef)
          · intro r a w' hf hg hW hr hd K hK
            refine wpOp_of rfl rfl ?_
            refine hf.depE hg hd 2 165 (by kernel_rfl) fun u0 e0 g0 h0 => ?_
            replace g0 : u0 = .slice (some ⟨g, 0, none⟩) m cap := g0
            subst g0
            refine hf.depE hg hd 3 166 (by kernel_rfl) fun u1 e1 g1 h1 => ?_
            replace g1 : u1 = .int .i64 (fa : Nat) := g1
            subst g1
            go_simp
            exact hK _ _ rfl (hW.upd 14 _ (by decide) (by decide))
          · intro r a w' hf hg hW hr hd K hK
            refine wpOp_of rfl rfl ?_
            refine hf.depE hg hd 14 176 (by kernel_rfl) fun u0 e0 g0 h0 => ?_
            replace g0 : u0 = .pointer (some ⟨g, fa, none⟩) := g0
            subst g0
            refine hf.depE hg hd 11 174 (by kernel_rfl) fun u1 e1 g1 h1 => ?_
            replace g1 : u1 = .int .i64 (xI : Nat) := g1
            subst g1
            refine hf.depE hg hd 7 170 (by kernel_rfl) fun uo eo go ho => ?_
            obtain ⟨old, y0⟩ := hW.old (k := fa) hJ HLN.out
            have y1 := hW.free fa
            go_simp
            exact hK undef _ trivial (hW.stb hr (by rw [ho]; simp) (by decide) undef)
        intro r' w9 hg hW hr'
        simp only [List.length_cons, List.length_nil, Nat.reduceAdd, List.range_succ, List.range_zero, List.nil_append, List.cons_append, List.map_cons, List.map_nil, putAll, Act.put, List.setIfInBounds_toArray, List.set_cons_succ, List.set_cons_zero]
        have ho9 := hW.fin (hr' 13 (by decide)) (hr' 15 (by decide))
        have HS9 := Lib.hid (HSW.out.2.2.2 _ ho9 hW.kp)
        clear hg hW hr' ho9 HSW HLN hI hJ hI' hJ'
        go_wp2_with fail
        exact bodyPost_ret (v := .tuple #[.int .i64 (j4 : Nat), .bool false]) (by simp [results, Try.results93, go_sem]) rfl ⟨false, by rw [HEND.out], by rw [HEND.out]; exact HS9.out⟩
      · have hij' : (i4 : Int) ≤ (j4 : Int) := by omega
        have hlt4 := part_lt HSU.out HSD.out (by omega) (by omega)
        have HON := Lib.hid (show partLoop (ltB l) fa (i4 + 1) (j4 - 1) (swp dj i4 j4) = R by rw [← part_on HSU.out HSD.out (by omega)]; exact HR1.out)
        have hwi2 : IntKind.i64.wrap ((i4 : Int) + 1) = ((i4 + 1 : Nat) : Int) := by rw [IntKind.wrap_i64]; omega
        have hwj2 : IntKind.i64.wrap ((j4 : Int) - 1) = ((j4 - 1 : Nat) : Int) := by rw [IntKind.wrap_i64]; omega
        obtain ⟨xI, hxI⟩ : ∃ x : Nat, dj[i4]! = x := ⟨_, rfl⟩
        obtain ⟨xJ, hxJ⟩ : ∃ x : Nat, dj[j4]! = x := ⟨_, rfl⟩
        have hI : i4 < m := by omega
        have hJ : j4 < m := by omega
        have hI' : (i4 : Int) < (m : Nat) := by omega
        have hJ' : (j4 : Int) < (m : Nat) := by omega
        have HSW := Lib.hid (show wc.ownsRow base 3 1 (.slice (some ⟨g, 0, none⟩) m cap) m (dj.toList.map natI) ∧ (dj.toList.map natI)[i4]? = some (.int .i64 (xI : Nat)) ∧ (dj.toList.map natI)[j4]? = some (.int .i64 (xJ : Nat)) ∧ ∀ W', W'.ownsRow base 3 1 (.slice (some ⟨g, 0, none⟩) m cap) m (((dj.toList.map natI).set i4 (.int .i64 (xJ : Nat))).set j4 (.int .i64 (xI : Nat))) → Kp (One g) wc W' → Srt base g m cap n w (swp dj i4 j4) W' from ⟨HS3.out.row, HS3.out.at_ hI hxI, HS3.out.at_ hJ hxJ, fun W' ho k => HS3.out.swp hI hJ hxI hxJ ho k⟩)
        have HLN := Lib.hid (show (dj.toList.map natI).length = m by have := HS3.out.row.1; simpa using this)
        clear hxI hxJ
        go_wp2_with fail
        refine wp_region_each (fun ix uR => match ix with | 0 => uR = .slice (some ⟨g, 0, none⟩) m cap | 1 => uR = .int .i64 (i4 : Nat) | 2 => uR = .slice (some ⟨g, 0, none⟩) m cap | 3 => uR = .int .i64 (j4 : Nat) | 4 => uR = .slice (some ⟨g, 0, none⟩) m cap | 5 => uR = .int .i64 (j4 : Nat) | 6 => uR = .pointer (some ⟨g, j4, none⟩) | 7 => uR = .int .i64 (xJ : Nat) | 8 => uR = .slice (some ⟨g, 0, none⟩) m cap | 9 => uR = .int .i64 (i4 : Nat) | 10 => uR = .pointer (some ⟨g, i4, none⟩) | 11 => uR = .int .i64 (xI : Nat) | 12 => uR = .pointer (some ⟨g, i4, none⟩) | 14 => uR = .pointer (some ⟨g, j4, none⟩) | _ => True) (Sx wc g base 3 m cap (dj.toList.map natI) i4 j4 (.int .i64 (xI : Nat)) (.int .i64 (xJ : Nat)) 7 11 13 15) (by kernel_rfl) (by kernel_rfl) (by kernel_rfl) ?_ ?_ ?_
        · exact Sx.start HSW.out.1 HSW.out.2.1 HSW.out.2.2.1
        · refine ⟨?_, ?_, ?_, ?_, ?_, ?_, ?_, ?_, ?_, ?_, ?_, ?_, ?_, ?_, ?_, ?_, trivial⟩
          · intro r a w' hf hg hW hr hd K hK
            refine wpOp_of rfl rfl ?_
            have e0 : a.tmps.getD 0 undef = .slice (some ⟨g, 0, none⟩) m cap := hf.evalFree (by kernel_rfl)
            go_simp
            exact hK _ _ rfl (hW.upd 0 _ (by decide) (by decide))
          · intro r a w' hf hg hW hr hd K hK
            refine wpOp_of rfl rfl ?_
            have e0 : a.tmps.getD 12 undef = .int .i64 (i4 : Nat) := hf.evalFree (by kernel_rfl)
            go_simp
            exact hK _ _ rfl (hW.upd 1 _ (by decide) (by decide))
          · intro r a w' hf hg hW hr hd K hK
            refine wpOp_of rfl rfl ?_
            have e0 : a.tmps.getD 0 undef = .slice (some ⟨g, 0, none⟩) m cap := hf.evalFree (by kernel_rfl)
            go_simp
            exact hK _ _ rfl (hW.upd 2 _ (by decide) (by decide))
          · intro r a w' hf hg hW hr hd K hK
            refine wpOp_of rfl rfl ?_
            have e0 : a.tmps.getD 13 undef = .int .i64 (j4 : Nat) := hf.evalFree (by kernel_rfl)
            go_simp
            exact hK _ _ rfl (hW.upd 3 _ (by decide) (by decide))
          · intro r a w' hf hg hW hr hd K hK
            refine wpOp_of rfl rfl ?_
            have e0 : a.tmps.getD 0 undef = .slice (some ⟨g, 0, none⟩) m cap := hf.evalFree (by kernel_rfl)
            go_simp
            exact hK _ _ rfl (hW.upd 4 _ (by decide) (by decide))
          · intro r a w' hf hg hW hr hd K hK
            refine wpOp_of rfl rfl ?_
            have e0 : a.tmps.getD 13 undef = .int .i64 (j4 : Nat) := hf.evalFree (by kernel_rfl)
            go_simp
            exact hK _ _ rfl (hW.upd 5 _ (by decide) (by decide))
          · intro r a w' hf hg hW hr hd K hK
            refine wpOp_of rfl rfl ?_
            refine hf.depE hg hd 4 149 (by kernel_rfl) fun u0 e0 g0 h0 => ?_
            replace g0 : u0 = .slice (some ⟨g, 0, none⟩) m cap := g0
            subst g0
            refine hf.depE hg hd 5 150 (by kernel_rfl) fun u1 e1 g1 h1 => ?_
            replace g1 : u1 = .int .i64 (j4 : Nat) := g1
            subst g1
            go_simp
            exact hK _ _ rfl (hW.upd 6 _ (by decide) (by decide))
          · intro r a w' hf hg hW hr hd K hK
            refine wpOp_of rfl rfl ?_
            refine hf.depE hg hd 6 151 (by kernel_rfl) fun u0 e0 g0 h0 => ?_
            replace g0 : u0 = .pointer (some ⟨g, j4, none⟩) := g0
            subst g0
            have z0 := hW.loadj hr
            go_simp
            exact hK _ _ rfl (hW.upd 7 _ (by decide) (by decide))
          · intro r a w' hf hg hW hr hd K hK
            refine wpOp_of rfl rfl ?_
            have e0 : a.tmps.getD 0 undef = .slice (some ⟨g, 0, none⟩) m cap := hf.evalFree (by kernel_rfl)
            go_simp
            exact hK _ _ rfl (hW.upd 8 _ (by decide) (by decide))
          · intro r a w' hf hg hW hr hd K hK
            refine wpOp_of rfl rfl ?_
            have e0 : a.tmps.getD 12 undef = .int .i64 (i4 : Nat) := hf.evalFree (by kernel_rfl)
            go_simp
            exact hK _ _ rfl (hW.upd 9 _ (by decide) (by decide))
          · intro r a w' hf hg hW hr hd K hK
            refine wpOp_of rfl rfl ?_
            refine hf.depE hg hd 8 153 (by kernel_rfl) fun u0 e0 g0 h0 => ?_
            replace g0 : u0 = .slice (some ⟨g, 0, none⟩) m cap := g0
            subst g0
            refine hf.depE hg hd 9 154 (by kernel_rfl) fun u1 e1 g1 h1 => ?_
            replace g1 : u1 = .int .i64 (i4 : Nat) := g1
            subst g1
            go_simp
            exact hK _ _ rfl (hW.upd 10 _ (by decide) (by decide))
          · intro r a w' hf hg hW hr hd K hK
            refine wpOp_of rfl rfl ?_
            refine hf.depE hg hd 10 155 (by kernel_rfl) fun u0 e0 g0 h0 => ?_
            replace g0 : u0 = .pointer (some ⟨g, i4, none⟩) := g0
            subst g0
            have z0 := hW.loadi hr
            go_simp
            exact hK _ _ rfl (hW.upd 11 _ (by decide) (by decide))
          · intro r a w' hf hg hW hr hd K hK
            refine wpOp_of rfl rfl ?_
            refine hf.depE hg hd 0 145 (by kernel_rfl) fun u0 e0 g0 h0 => ?_
            replace g0 : u0 = .slice (some ⟨g, 0, none⟩) m cap := g0
            subst g0
            refine hf.depE hg hd 1 146 (by kernel_rfl) fun u1 e1 g1 h1 => ?_
            replace g1 : u1 = .int .i64 (i4 : Nat) := g1
            subst g1
            go_simp
            exact hK _ _ rfl (hW.upd 12 _ (by decide) (by decide))
          · intro r a w' hf hg hW hr hd K hK
            refine wpOp_of rfl rfl ?_
            refine hf.depE hg hd 12 157 (by kernel_rfl) fun u0 e0 g0 h0 => ?_
            replace g0 : u0 = .pointer (some ⟨g, i4, none⟩) := g0
            subst g0
            refine hf.depE hg hd 7 152 (by kernel_rfl) fun u1 e1 g1 h1 => ?_
            replace g1 : u1 = .int .i64 (xJ : Nat) := g1
            subst g1
            refine hf.depE hg hd 11 156 (by kernel_rfl) fun uo eo go ho => ?_
            obtain ⟨old, y0⟩ := hW.old (k := i4) hI HLN.out
            have y1 := hW.free i4
            go_simp
            exact hK undef _ trivial (hW.sta hr (by rw [ho]; simp) (by decide) undef)
          · intro r a w' hf hg hW hr hd K hK
            refine wpOp_of rfl rfl ?_
            refine hf.depE hg hd 2 147 (by kernel_rfl) fun u0 e0 g0 h0 => ?_
            replace g0 : u0 = .slice (some ⟨g, 0, none⟩) m cap := g0
            subst g0
            refine hf.depE hg hd 3 148 (by kernel_rfl) fun u1 e1 g1 h1 => ?_
            replace g1 : u1 = .int .i64 (j4 : Nat) := g1
            subst g1
            go_simp
            exact hK _ _ rfl (hW.upd 14 _ (by decide) (by decide))
          · intro r a w' hf hg hW hr hd K hK
            refine wpOp_of rfl rfl ?_
            refine hf.depE hg hd 14 158 (by kernel_rfl) fun u0 e0 g0 h0 => ?_
            replace g0 : u0 = .pointer (some ⟨g, j4, none⟩) := g0
            subst g0
            refine hf.depE hg hd 11 156 (by kernel_rfl) fun u1 e1 g1 h1 => ?_
            replace g1 : u1 = .int .i64 (xI : Nat) := g1
            subst g1
            refine hf.depE hg hd 7 152 (by kernel_rfl) fun uo eo go ho => ?_
            obtain ⟨old, y0⟩ := hW.old (k := j4) hJ HLN.out
            have y1 := hW.free j4
            go_simp
            exact hK undef _ trivial (hW.stb hr (by rw [ho]; simp) (by decide) undef)
        intro r' w9 hg hW hr'
        simp only [List.length_cons, List.length_nil, Nat.reduceAdd, List.range_succ, List.range_zero, List.nil_append, List.cons_append, List.map_cons, List.map_nil, putAll, Act.put, List.setIfInBounds_toArray, List.set_cons_succ, List.set_cons_zero]
        have ho9 := hW.fin (hr' 13 (by decide)) (hr' 15 (by decide))
        have HS9 := Lib.hid (HSW.out.2.2.2 _ ho9 hW.kp)
        clear hg hW hr' ho9 HSW HLN hI hJ hI' hJ'
        go_wp2_with fail
        go_roundw
        case rel => exact ⟨i4 + 1, j4 - 1, swp dj i4 j4, by omega, by omega, by omega, by go_num, by go_num, HON.out, HS9.out⟩
        case measure => simp [intOf]; omega
end Go.Proofs.Ytamjhpdgclbfgaa
