/- Chapter 09: slices.heapSortCmpFunc: the walk. Printed by gen_ssc.py. -/
import Derived.Test.YtamjhpdgclbfgaaXSsC
namespace Go.Proofs.Ytamjhpdgclbfgaa
open Go.RowKit Go.Kq Go.Sort

set_option maxHeartbeats 8000000 in
set_option maxRecDepth 100000 in
theorem heapP_any (P : Pt) (A : Option Addr) (n ca : Nat) (l : List Ct) (base g cap m fa fb : Nat) (d : Array Nat) (w W0 : World) (hB : CmpB P A n ca l g w) (hs : Srt base g m cap n w d W0) (hm : m ≤ 1000) (hab : fa < fb) (hb : fb ≤ m) :
    Calls Try.prog 87 #[.slice (some ⟨g, 0, none⟩) m cap, .int .i64 (fa : Nat), .int .i64 (fb : Nat), befV P A n ca] W0 fun e w' => e = .returned (.tuple #[]) ∧ Srt base g m cap n w (heapSort (ltB l) d fa fb) w' := by
  have HSIFT := Lib.hid (fun lo hi first d W hs h1 h2 => siftP_any P A n ca l base g cap m lo hi first d w W hB hs hm h1 h2)
  have HS := Lib.hid hs
  obtain ⟨R, hR⟩ : ∃ R, heapSort (ltB l) d fa fb = R := ⟨_, rfl⟩
  rw [hR]
  obtain ⟨h, hh⟩ : ∃ r, r = fb - fa := ⟨_, rfl⟩
  obtain ⟨h1, hh1⟩ : ∃ r, r = h - 1 := ⟨_, rfl⟩
  obtain ⟨q0, hq0⟩ : ∃ r, r = h1 / 2 := ⟨_, rfl⟩
  have HR := Lib.hid (show heapPop (ltB l) fa h (heapBuild (ltB l) h fa (q0 + 1) d) = R by rw [hq0, hh1, hh]; exact hR)
  have hwh : IntKind.i64.wrap ((fb : Int) - (fa : Int)) = ((h : Nat) : Int) := by rw [IntKind.wrap_i64]; omega
  have hwh1 : IntKind.i64.wrap ((h : Int) - 1) = ((h1 : Nat) : Int) := by rw [IntKind.wrap_i64]; omega
  have hwq : Int.tdiv ((h1 : Nat) : Int) 2 = ((q0 : Nat) : Int) := by rw [Int.tdiv_eq_ediv_of_nonneg (by omega)]; omega
  have hah : fa + h ≤ m := by omega
  have h0 : 1 ≤ h := by omega
  have hqm : q0 < h := by omega
  have HH1 := Lib.hid hh1
  clear hB hs hR hh hh1 hq0
  simp only [befV, jobV] at HSIFT ⊢
  go_enter Try.func87, Try.ntmps87
  go_wp2_with fail
  go_loopw [11] (fun vi wr => ∃ (k : Nat) (dj : Array Nat), k ≤ q0 + 1 ∧ vi = .int .i64 ((k : Int) - 1) ∧ heapPop (ltB l) fa h (heapBuild (ltB l) h fa k dj) = R ∧ Srt base g m cap n w dj wr) (fun vi _ => (intOf vi + 1).toNat)
  case atStart => exact ⟨q0 + 1, d, Nat.le_refl _, by congr 1; omega, HR.out, HS.out⟩
  case round =>
    obtain ⟨k, dj, hk, rfl, hor, hsr⟩ := hrel
    have HO := Lib.hid hor
    replace HS := Lib.hid hsr
    clear hor hsr HR
    by_cases hk0 : k = 0
    · subst hk0
      rw [show (((0 : Nat) : Int) - 1) = (-1 : Int) from rfl]
      have HO2 := Lib.hid (show heapPop (ltB l) fa h dj = R from HO.out)
      clear HO
      go_wp2_with fail
      go_loopw [12] (fun vi wr => ∃ (k : Nat) (dj : Array Nat), k ≤ h ∧ vi = .int .i64 ((k : Int) - 1) ∧ heapPop (ltB l) fa k dj = R ∧ Srt base g m cap n w dj wr) (fun vi _ => (intOf vi + 1).toNat)
      case atStart => exact ⟨h, dj, Nat.le_refl _, by have := HH1.out; congr 1; omega, HO2.out, HS.out⟩
      case round =>
        obtain ⟨k, dj, hk, rfl, hor, hsr⟩ := hrel
        clear HO2
        have HO := Lib.hid hor
        replace HS := Lib.hid hsr
        clear hor hsr
        by_cases hk0 : k = 0
        · subst hk0
          rw [show (((0 : Nat) : Int) - 1) = (-1 : Int) from rfl]
          have HEND := Lib.hid (show dj = R from HO.out)
          go_wp2_with fail
          go_end0
          exact ⟨rfl, by rw [← HEND.out]; exact HS.out⟩
        · obtain ⟨i, rfl⟩ : ∃ i, k = i + 1 := ⟨k - 1, by omega⟩
          rw [show ((i + 1 : Nat) : Int) - 1 = (i : Int) by omega]
          obtain ⟨ai, hai⟩ : ∃ r, r = fa + i := ⟨_, rfl⟩
          have hwai : IntKind.i64.wrap ((fa : Int) + (i : Int)) = ((ai : Nat) : Int) := by rw [IntKind.wrap_i64]; omega
          have hwi : IntKind.i64.wrap ((i : Int) - 1) = (i : Int) - 1 := by rw [IntKind.wrap_i64]; omega
          have hi0 : (0 : Int) ≤ (i : Int) := by omega
          have HO3 := Lib.hid (show heapPop (ltB l) fa i (siftDown (ltB l) i fa 0 (swp dj fa ai)) = R by rw [hai]; exact HO.out)
          have HAI := Lib.hid hai
          clear HO hai
          obtain ⟨xI, hxI⟩ : ∃ x : Nat, dj[fa]! = x := ⟨_, rfl⟩
          obtain ⟨xJ, hxJ⟩ : ∃ x : Nat, dj[ai]! = x := ⟨_, rfl⟩
          have hI : fa < m := by omega
          have hJ : ai < m := by have := HAI.out; omega
          have hI' : (fa : Int) < (m : Nat) := by omega
          have hJ' : (ai : Int) < (m : Nat) := by omega
          have HSW := Lib.hid (show wr.ownsRow base 3 1 (.slice (some ⟨g, 0, none⟩) m cap) m (dj.toList.map natI) ∧ (dj.toList.map natI)[fa]? = some (.int .i64 (xI : Nat)) ∧ (dj.toList.map natI)[ai]? = some (.int .i64 (xJ : Nat)) ∧ ∀ W', W'.ownsRow base 3 1 (.slice (some ⟨g, 0, none⟩) m cap) m (((dj.toList.map natI).set fa (.int .i64 (xJ : Nat))).set ai (.int .i64 (xI : Nat))) → Kp (One g) wr W' → Srt base g m cap n w (swp dj fa ai) W' from ⟨HS.out.row, HS.out.at_ hI hxI, HS.out.at_ hJ hxJ, fun W' ho k => HS.out.swp hI hJ hxI hxJ ho k⟩)
          have HLN := Lib.hid (show (dj.toList.map natI).length = m by have := HS.out.row.1; simpa using this)
          clear hxI hxJ
          go_wp2_with fail
          refine wp_region_each (fun ix uR => match ix with | 0 => uR = .slice (some ⟨g, 0, none⟩) m cap | 1 => uR = .int .i64 (fa : Nat) | 2 => uR = .slice (some ⟨g, 0, none⟩) m cap | 3 => uR = .int .i64 (fa : Nat) | 4 => uR = .int .i64 (i : Nat) | 5 => uR = .int .i64 (ai : Nat) | 6 => uR = .slice (some ⟨g, 0, none⟩) m cap | 7 => uR = .int .i64 (fa : Nat) | 8 => uR = .int .i64 (i : Nat) | 9 => uR = .int .i64 (ai : Nat) | 10 => uR = .pointer (some ⟨g, ai, none⟩) | 11 => uR = .int .i64 (xJ : Nat) | 12 => uR = .slice (some ⟨g, 0, none⟩) m cap | 13 => uR = .int .i64 (fa : Nat) | 14 => uR = .pointer (some ⟨g, fa, none⟩) | 15 => uR = .int .i64 (xI : Nat) | 16 => uR = .pointer (some ⟨g, fa, none⟩) | 18 => uR = .pointer (some ⟨g, ai, none⟩) | _ => True) (Sx wr g base 3 m cap (dj.toList.map natI) fa ai (.int .i64 (xI : Nat)) (.int .i64 (xJ : Nat)) 11 15 17 19) (by kernel_rfl) (by kernel_rfl) (by kernel_rfl) ?_ ?_ ?_
          · exact Sx.start HSW.out.1 HSW.out.2.1 HSW.out.2.2.1
          · refine ⟨?_, ?_, ?_, ?_, ?_, ?_, ?_, ?_, ?_, ?_, ?_, ?_, ?_, ?_, ?_, ?_, ?_, ?_, ?_, ?_, trivial⟩
            · intro r a w' hf hg hW hr hd K hK
              refine wpOp_of rfl rfl ?_
              have e0 : a.tmps.getD 0 undef = .slice (some ⟨g, 0, none⟩) m cap := hf.evalFree (by kernel_rfl)
              go_simp
              exact hK _ _ rfl (hW.upd 0 _ (by decide) (by decide))
            · intro r a w' hf hg hW hr hd K hK
              refine wpOp_of rfl rfl ?_
              have e0 : a.tmps.getD 8 undef = .int .i64 (fa : Nat) := hf.evalFree (by kernel_rfl)
              go_simp
              exact hK _ _ rfl (hW.upd 1 _ (by decide) (by decide))
            · intro r a w' hf hg hW hr hd K hK
              refine wpOp_of rfl rfl ?_
              have e0 : a.tmps.getD 0 undef = .slice (some ⟨g, 0, none⟩) m cap := hf.evalFree (by kernel_rfl)
              go_simp
              exact hK _ _ rfl (hW.upd 2 _ (by decide) (by decide))
            · intro r a w' hf hg hW hr hd K hK
              refine wpOp_of rfl rfl ?_
              have e0 : a.tmps.getD 8 undef = .int .i64 (fa : Nat) := hf.evalFree (by kernel_rfl)
              go_simp
              exact hK _ _ rfl (hW.upd 3 _ (by decide) (by decide))
            · intro r a w' hf hg hW hr hd K hK
              refine wpOp_of rfl rfl ?_
              have e0 : a.tmps.getD 12 undef = .int .i64 (i : Nat) := hf.evalFree (by kernel_rfl)
              go_simp
              exact hK _ _ rfl (hW.upd 4 _ (by decide) (by decide))
            · intro r a w' hf hg hW hr hd K hK
              refine wpOp_of rfl rfl ?_
              refine hf.depE hg hd 3 39 (by kernel_rfl) fun u0 e0 g0 h0 => ?_
              replace g0 : u0 = .int .i64 (fa : Nat) := g0
              subst g0
              refine hf.depE hg hd 4 40 (by kernel_rfl) fun u1 e1 g1 h1 => ?_
              replace g1 : u1 = .int .i64 (i : Nat) := g1
              subst g1
              go_simp
              exact hK _ _ rfl (hW.upd 5 _ (by decide) (by decide))
            · intro r a w' hf hg hW hr hd K hK
              refine wpOp_of rfl rfl ?_
              have e0 : a.tmps.getD 0 undef = .slice (some ⟨g, 0, none⟩) m cap := hf.evalFree (by kernel_rfl)
              go_simp
              exact hK _ _ rfl (hW.upd 6 _ (by decide) (by decide))
            · intro r a w' hf hg hW hr hd K hK
              refine wpOp_of rfl rfl ?_
              have e0 : a.tmps.getD 8 undef = .int .i64 (fa : Nat) := hf.evalFree (by kernel_rfl)
              go_simp
              exact hK _ _ rfl (hW.upd 7 _ (by decide) (by decide))
            · intro r a w' hf hg hW hr hd K hK
              refine wpOp_of rfl rfl ?_
              have e0 : a.tmps.getD 12 undef = .int .i64 (i : Nat) := hf.evalFree (by kernel_rfl)
              go_simp
              exact hK _ _ rfl (hW.upd 8 _ (by decide) (by decide))
            · intro r a w' hf hg hW hr hd K hK
              refine wpOp_of rfl rfl ?_
              refine hf.depE hg hd 7 43 (by kernel_rfl) fun u0 e0 g0 h0 => ?_
              replace g0 : u0 = .int .i64 (fa : Nat) := g0
              subst g0
              refine hf.depE hg hd 8 44 (by kernel_rfl) fun u1 e1 g1 h1 => ?_
              replace g1 : u1 = .int .i64 (i : Nat) := g1
              subst g1
              go_simp
              exact hK _ _ rfl (hW.upd 9 _ (by decide) (by decide))
            · intro r a w' hf hg hW hr hd K hK
              refine wpOp_of rfl rfl ?_
              refine hf.depE hg hd 6 42 (by kernel_rfl) fun u0 e0 g0 h0 => ?_
              replace g0 : u0 = .slice (some ⟨g, 0, none⟩) m cap := g0
              subst g0
              refine hf.depE hg hd 9 45 (by kernel_rfl) fun u1 e1 g1 h1 => ?_
              replace g1 : u1 = .int .i64 (ai : Nat) := g1
              subst g1
              go_simp
              exact hK _ _ rfl (hW.upd 10 _ (by decide) (by decide))
            · intro r a w' hf hg hW hr hd K hK
              refine wpOp_of rfl rfl ?_
              refine hf.depE hg hd 10 46 (by kernel_rfl) fun u0 e0 g0 h0 => ?_
              replace g0 : u0 = .pointer (some ⟨g, ai, none⟩) := g0
              subst g0
              have z0 := hW.loadj hr
              go_simp
              exact hK _ _ rfl (hW.upd 11 _ (by decide) (by decide))
            · intro r a w' hf hg hW hr hd K hK
              refine wpOp_of rfl rfl ?_
              have e0 : a.tmps.getD 0 undef = .slice (some ⟨g, 0, none⟩) m cap := hf.evalFree (by kernel_rfl)
              go_simp
              exact hK _ _ rfl (hW.upd 12 _ (by decide) (by decide))
            · intro r a w' hf hg hW hr hd K hK
              refine wpOp_of rfl rfl ?_
              have e0 : a.tmps.getD 8 undef = .int .i64 (fa : Nat) := hf.evalFree (by kernel_rfl)
              go_simp
              exact hK _ _ rfl (hW.upd 13 _ (by decide) (by decide))
            · intro r a w' hf hg hW hr hd K hK
              refine wpOp_of rfl rfl ?_
              refine hf.depE hg hd 12 48 (by kernel_rfl) fun u0 e0 g0 h0 => ?_
              replace g0 : u0 = .slice (some ⟨g, 0, none⟩) m cap := g0
              subst g0
              refine hf.depE hg hd 13 49 (by kernel_rfl) fun u1 e1 g1 h1 => ?_
              replace g1 : u1 = .int .i64 (fa : Nat) := g1
              subst g1
              go_simp
              exact hK _ _ rfl (hW.upd 14 _ (by decide) (by decide))
            · intro r a w' hf hg hW hr hd K hK
              refine wpOp_of rfl rfl ?_
              refine hf.depE hg hd 14 50 (by kernel_rfl) fun u0 e0 g0 h0 => ?_
              replace g0 : u0 = .pointer (some ⟨g, fa, none⟩) := g0
              subst g0
              have z0 := hW.loadi hr
              go_simp
              exact hK _ _ rfl (hW.upd 15 _ (by decide) (by decide))
            · intro r a w' hf hg hW hr hd K hK
              refine wpOp_of rfl rfl ?_
              refine hf.depE hg hd 0 36 (by kernel_rfl) fun u0 e0 g0 h0 => ?_
              replace g0 : u0 = .slice (some ⟨g, 0, none⟩) m cap := g0
              subst g0
              refine hf.depE hg hd 1 37 (by kernel_rfl) fun u1 e1 g1 h1 => ?_
              replace g1 : u1 = .int .i64 (fa : Nat) := g1
              subst g1
              go_simp
              exact hK _ _ rfl (hW.upd 16 _ (by decide) (by decide))
            · intro r a w' hf hg hW hr hd K hK
              refine wpOp_of rfl rfl ?_
              refine hf.depE hg hd 16 52 (by kernel_rfl) fun u0 e0 g0 h0 => ?_
              replace g0 : u0 = .pointer (some ⟨g, fa, none⟩) := g0
              subst g0
              refine hf.depE hg hd 11 47 (by kernel_rfl) fun u1 e1 g1 h1 => ?_
              replace g1 : u1 = .int .i64 (xJ : Nat) := g1
              subst g1
              refine hf.depE hg hd 15 51 (by kernel_rfl) fun uo eo go ho => ?_
              obtain ⟨old, y0⟩ := hW.old (k := fa) hI HLN.out
              have y1 := hW.free fa
              go_simp
              exact hK undef _ trivial (hW.sta hr (by rw [ho]; simp) (by decide) undef)
            · intro r a w' hf hg hW hr hd K hK
              refine wpOp_of rfl rfl ?_
              refine hf.depE hg hd 2 38 (by kernel_rfl) fun u0 e0 g0 h0 => ?_
              replace g0 : u0 = .slice (some ⟨g, 0, none⟩) m cap := g0
              subst g0
              refine hf.depE hg hd 5 41 (by kernel_rfl) fun u1 e1 g1 h1 => ?_
              replace g1 : u1 = .int .i64 (ai : Nat) := g1
              subst g1
              go_simp
              exact hK _ _ rfl (hW.upd 18 _ (by decide) (by decide))
            · intro r a w' hf hg hW hr hd K hK
              refine wpOp_of rfl rfl ?_
              refine hf.depE hg hd 18 53 (by kernel_rfl) fun u0 e0 g0 h0 => ?_
              replace g0 : u0 = .pointer (some ⟨g, ai, none⟩) := g0
              subst g0
              refine hf.depE hg hd 15 51 (by kernel_rfl) fun u1 e1 g1 h1 => ?_
              replace g1 : u1 = .int .i64 (xI : Nat) := g1
              subst g1
              refine hf.depE hg hd 11 47 (by kernel_rfl) fun uo eo go ho => ?_
              obtain ⟨old, y0⟩ := hW.old (k := ai) hJ HLN.out
              have y1 := hW.free ai
              go_simp
              exact hK undef _ trivial (hW.stb hr (by rw [ho]; simp) (by decide) undef)
          intro r' w9 hg hW hr'
          simp only [List.length_cons, List.length_nil, Nat.reduceAdd, List.range_succ, List.range_zero, List.nil_append, List.cons_append, List.map_cons, List.map_nil, putAll, Act.put, List.setIfInBounds_toArray, List.set_cons_succ, List.set_cons_zero]
          have ho9 := hW.fin (hr' 17 (by decide)) (hr' 19 (by decide))
          have HS9 := Lib.hid (HSW.out.2.2.2 _ ho9 hW.kp)
          clear hg hW hr' ho9 HSW HLN hI hJ hI' hJ'
          have HSF := Lib.hid (HSIFT.out 0 i fa (swp dj fa ai) w9 HS9.out (by omega) (by omega))
          rw [show (((0 : Nat) : Int)) = (0 : Int) from rfl] at HSF
          go_wp2_with fail
          with_reducible refine HSF.out.mono ?_
          rintro e w2 ⟨rfl, hs2⟩
          have HS2 := Lib.hid hs2
          clear hs2 HSF HS9 HS
          go_wp2_with fail
          go_roundw
          case rel => exact ⟨i, _, by omega, rfl, HO3.out, HS2.out⟩
          case measure => simp [intOf] <;> omega
    · obtain ⟨i, rfl⟩ : ∃ i, k = i + 1 := ⟨k - 1, by omega⟩
      rw [show ((i + 1 : Nat) : Int) - 1 = (i : Int) by omega]
      have hwi : IntKind.i64.wrap ((i : Int) - 1) = (i : Int) - 1 := by rw [IntKind.wrap_i64]; omega
      have hi0 : (0 : Int) ≤ (i : Int) := by omega
      have HO3 := Lib.hid (show heapPop (ltB l) fa h (heapBuild (ltB l) h fa i (siftDown (ltB l) h fa i dj)) = R from HO.out)
      have HSF := Lib.hid (HSIFT.out i h fa dj wr HS.out (by omega) (by omega))
      clear HO
      go_wp2_with fail
      with_reducible refine HSF.out.mono ?_
      rintro e w2 ⟨rfl, hs2⟩
      have HS2 := Lib.hid hs2
      clear hs2 HSF HS
      go_wp2_with fail
      go_roundw
      case rel => exact ⟨i, _, by omega, rfl, HO3.out, HS2.out⟩
      case measure => simp [intOf] <;> omega
end Go.Proofs.Ytamjhpdgclbfgaa
