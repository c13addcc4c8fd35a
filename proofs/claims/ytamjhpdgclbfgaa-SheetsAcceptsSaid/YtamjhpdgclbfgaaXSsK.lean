/- Chapter 09: slices.breakPatternsCmpFunc: the walk. Printed by gen_ssk.py. -/
import Derived.Laws.Bits64b
import Derived.Test.YtamjhpdgclbfgaaXSsAM
import Derived.Test.YtamjhpdgclbfgaaXSpyM
namespace Go.Proofs.Ytamjhpdgclbfgaa
open Go.RowKit Go.Kq Go.Sort

theorem next_any (rb X : Nat) (hX : X < 18446744073709551616) (w : World) (hc : w.cell? ⟨rb, 0, none⟩ = some (.int .u64 X)) (hf : w.frozen? ⟨rb, 0, none⟩ = false) :
    Calls Try.prog 115 #[.pointer (some ⟨rb, 0, none⟩)] w fun e w' => e = .returned (.int .u64 (xorNextN X : Nat)) ∧ w' = (w.setCell ⟨rb, 0, none⟩ (.int .u64 (xorNextN X : Nat))).drewN 3 :=
  AnyF.xorshift_Next (P := Try.prog) (ρ := sortFI_ren) { sortFI with } rb 0 X hX w hc hf
theorem npow_any (k : Nat) (hk : k < 1000) (w : World) : Calls Try.prog 114 #[.int .i64 (k : Nat)] w fun e w' => e = .returned (.int .u64 ((1 <<< bitsLen k : Nat) : Int)) ∧ w' = w :=
  AnyF.nextPowerOfTwo (P := Try.prog) (ρ := sortFI_ren) { sortFI with } k (by omega) w
theorem brk_and {k X : Nat} (hk : 0 < k) : X &&& (1 <<< bitsLen k - 1) < 2 * k := by
  have h1 : X &&& (1 <<< bitsLen k - 1) ≤ 1 <<< bitsLen k - 1 := Nat.and_le_right
  have h2 := two_pow_bitsLen_le hk
  have h3 : 0 < 2 ^ bitsLen k := Nat.pow_pos (by omega)
  rw [Nat.one_shiftLeft] at *
  omega
theorem Srt.off {base g m cap n gr : Nat} {w W W' : World} {d : Array Nat} (h : Srt base g m cap n w d W) (k : Kp (One gr) W W') (hg : gr ≠ g) (hw : w.heap.size ≤ gr) : Srt base g m cap n w d W' :=
  ⟨own_kp h.row k (fun b hb e => by have e : b = gr := e; have hb : some g = some b := hb; injection hb with hb; omega), h.lt, h.k.trans k fun b hb e => by have e : b = gr := e; omega⟩
set_option maxHeartbeats 8000000 in
set_option maxRecDepth 100000 in
theorem brkP_any (P : Pt) (A : Option Addr) (n ca : Nat) (base g cap m fa fb : Nat) (d : Array Nat) (w W0 : World) (hs : Srt base g m cap n w d W0) (hm : m < 1000) (hab : fa + 8 ≤ fb) (hb : fb ≤ m) :
    Calls Try.prog 88 #[.slice (some ⟨g, 0, none⟩) m cap, .int .i64 (fa : Nat), .int .i64 (fb : Nat), befV P A n ca] W0 fun e w' => e = .returned (.tuple #[]) ∧ ∃ d', PermIn fa fb d d' ∧ Srt base g m cap n w d' w' := by
  have HDS := Lib.hid hs.sz
  have hgs := hs.blk.2
  have hws : w.heap.size ≤ W0.heap.size := hs.k.size
  obtain ⟨len, hlen⟩ : ∃ r, r = fb - fa := ⟨_, rfl⟩
  obtain ⟨q4, hq4⟩ : ∃ r, r = len / 4 := ⟨_, rfl⟩
  obtain ⟨x0, hx0⟩ : ∃ r, r = fa + q4 * 2 - 1 := ⟨_, rfl⟩
  obtain ⟨s1, hs1⟩ : ∃ r, r = fa + q4 * 2 + 1 := ⟨_, rfl⟩
  obtain ⟨M1, hM1⟩ : ∃ r, r = 1 <<< bitsLen len - 1 := ⟨_, rfl⟩
  have hM0 : 0 < 1 <<< bitsLen len := by rw [Nat.one_shiftLeft]; exact Nat.pow_pos (by omega)
  have hMM := two_pow_bitsLen_le (n := len) (by omega)
  rw [← Nat.one_shiftLeft] at hMM
  have HAND := Lib.hid (show ∀ X : Nat, X &&& M1 < 2 * len from fun X => by rw [hM1]; exact brk_and (by omega))
  obtain ⟨MM, hMMe⟩ : ∃ r, r = 1 <<< bitsLen len := ⟨_, rfl⟩
  have HNP := Lib.hid (fun w0 => npow_any len (by omega) w0)
  rw [← hMMe] at hM0 hMM hM1
  simp only [← hMMe] at HNP
  have hwl : IntKind.i64.wrap ((fb : Int) - (fa : Int)) = ((len : Nat) : Int) := by rw [IntKind.wrap_i64]; omega
  have hwu : IntKind.u64.wrap ((len : Nat) : Int) = ((len : Nat) : Int) := by rw [IntKind.wrap_u64]; omega
  have hl8 : (8 : Int) ≤ (len : Int) := by omega
  have hwq : Int.tdiv ((len : Nat) : Int) 4 = ((q4 : Nat) : Int) := by rw [Int.tdiv_eq_ediv_of_nonneg (by omega)]; omega
  have hqb : q4 ≤ 250 := by omega
  have hlb : len ≤ 1000 := by omega
  have hM1b : M1 ≤ 2000 := by omega
  have hwM : IntKind.u64.wrap ((MM : Int) - 1) = ((M1 : Nat) : Int) := by rw [IntKind.wrap_u64]; omega
  have hwM2 : ((MM : Int) - 1) = ((M1 : Nat) : Int) := by omega
  have HB := Lib.hid (show fa ≤ x0 ∧ s1 + 1 ≤ fb ∧ x0 + 2 = s1 ∧ M1 < 18446744073709551616 ∧ len = fb - fa ∧ x0 + 1 = fa + q4 * 2 by omega)
  obtain ⟨gr, hgr⟩ : ∃ r, W0.heap.size = r := ⟨_, rfl⟩
  obtain ⟨W1, hW1⟩ : ∃ W1, W0.alloc (.cells #[.int .u64 (len : Int)] 163) = W1 := ⟨_, rfl⟩
  have kW : Kp No W0 W1 := by rw [← hW1]; exact Kp.alloc _ _ _
  have HS1 := Lib.hid (hs.no kW)
  have hcr : W1.heap[gr]? = some (.cells #[.int .u64 (len : Int)] 163 (0, 0)) := by rw [← hW1, ← hgr]; exact heap_alloc_new _ _
  have HCR := Lib.hid (show W1.cell? ⟨gr, 0, none⟩ = some (.int .u64 ((len : Nat) : Int)) ∧ W1.frozen? ⟨gr, 0, none⟩ = false ∧ gr < W1.heap.size from ⟨by rw [cell_of_row _ _ _ _ _ _ hcr]; rfl, by simp [World.frozen?, hcr], (Array.getElem?_eq_some_iff.mp hcr).1⟩)
  have HG := Lib.hid (show gr ≠ g ∧ w.heap.size ≤ gr by omega)
  clear hs hlen hq4 hx0 hs1 hM1 hMMe hcr kW hgs hws
  simp only [befV, jobV]
  go_enter Try.func88, Try.ntmps88
  go_wp2_with fail
  refine (HNP.out W1).mono ?_
  rintro e w' ⟨rfl, rfl⟩
  go_wp2_with fail
  go_loopw [11] (fun vx wr => ∃ (ii : Nat) (dj : Array Nat) (X : Nat), x0 ≤ ii ∧ ii ≤ s1 + 1 ∧ vx = .int .i64 (ii : Nat) ∧ X < 18446744073709551616 ∧ wr.cell? ⟨gr, 0, none⟩ = some (.int .u64 ((X : Nat) : Int)) ∧ wr.frozen? ⟨gr, 0, none⟩ = false ∧ gr < wr.heap.size ∧ PermIn fa fb d dj ∧ Srt base g m cap n w dj wr) (fun vx _ => s1 + 2 - (intOf vx).toNat)
  case atStart => exact ⟨x0, d, len, Nat.le_refl _, by have := HB.out; omega, by have := HB.out; congr 1; omega, by have := HB.out; omega, HCR.out.1, HCR.out.2.1, HCR.out.2.2, permIn_refl _ _ _, HS1.out⟩
  case round =>
    obtain ⟨ii, dj, X, hx1, hx2, rfl, hX, hc, hf, hgz, hp, hsr⟩ := hrel
    by_cases hlt : ii ≤ s1
    · have hlt' : (ii : Int) ≤ (fa : Int) + (q4 : Int) * 2 + 1 := by have := HB.out; omega
      obtain ⟨X2, hX2⟩ : ∃ r, xorNextN X = r := ⟨_, rfl⟩
      have hX3 : X2 < 18446744073709551616 := by rw [← hX2]; exact xorNextN_lt X hX
      obtain ⟨wn, hwn⟩ : ∃ wn, (wr.setCell ⟨gr, 0, none⟩ (.int .u64 ((X2 : Nat) : Int))).drewN 3 = wn := ⟨_, rfl⟩
      have kN : Kp (One gr) wr wn := by rw [← hwn]; exact (kp_setOne wr gr 0 _).no (Kp.drewN No _ _)
      have HS := Lib.hid (hsr.off kN HG.out.1 HG.out.2)
      have HCN := Lib.hid (show wn.cell? ⟨gr, 0, none⟩ = some (.int .u64 ((X2 : Nat) : Int)) ∧ wn.frozen? ⟨gr, 0, none⟩ = false ∧ gr < wn.heap.size from ⟨by rw [← hwn, World.cell?_drewN, World.cell?_setCell_same _ _ _ hc], by rw [← hwn, World.frozen?_drewN, World.frozen?_setCell]; exact hf, Nat.lt_of_lt_of_le hgz kN.size⟩)
      have HNX := Lib.hid (show Calls Try.prog 115 #[.pointer (some ⟨gr, 0, none⟩)] wr fun e w' => e = .returned (.int .u64 ((X2 : Nat) : Int)) ∧ w' = wn from by rw [← hwn, ← hX2]; exact next_any gr X hX wr hc hf)
      obtain ⟨o2, ho2⟩ : ∃ r, X2 &&& M1 = r := ⟨_, rfl⟩
      have hbits : bits .and .u64 ((X2 : Nat) : Int) ((M1 : Nat) : Int) = ((o2 : Nat) : Int) := by rw [bits_and_u64_nat _ _ hX3 HB.out.2.2.2.1, ho2]
      have hol : o2 < 2 * len := by rw [← ho2]; exact HAND.out X2
      have hwo : IntKind.i64.wrap ((o2 : Nat) : Int) = ((o2 : Nat) : Int) := by rw [IntKind.wrap_i64]; have := HB.out; omega
      have hwx : IntKind.i64.wrap ((ii : Int) + 1) = ((ii + 1 : Nat) : Int) := by rw [IntKind.wrap_i64]; have := HB.out; omega
      have HP := Lib.hid hp
      clear hsr hc hf hgz hp hwn hX2 hX kN ho2
      by_cases hge : len ≤ o2
      · have hge' : (len : Int) ≤ (o2 : Int) := by omega
        obtain ⟨ot, hot⟩ : ∃ r, r = o2 - len := ⟨_, rfl⟩
        have hwt : (o2 : Int) - (len : Int) = ((ot : Nat) : Int) := by omega
        obtain ⟨ai, hai⟩ : ∃ r, r = fa + ot := ⟨_, rfl⟩
        have hwi : IntKind.i64.wrap ((fa : Int) + (ot : Int)) = ((ai : Nat) : Int) := by rw [IntKind.wrap_i64]; have := HB.out; omega
        have HPN := Lib.hid (show PermIn fa fb d (swp dj ii ai) from permIn_trans _ _ _ _ _ HP.out (swp_permIn _ _ _ _ _ (by have := HB.out; omega) (by have := HB.out; omega) (by omega) (by have := HB.out; omega) (by rw [HS.out.sz]; exact hb)))
        have hAI : ai < m := by have := HB.out; omega
        clear HP hot hai
        go_wp2_with fail
        refine HNX.out.mono ?_
        rintro e w' ⟨rfl, rfl⟩
        go_wp2_with fail
        clear hol
        obtain ⟨xI, hxI⟩ : ∃ x : Nat, dj[ii]! = x := ⟨_, rfl⟩
        obtain ⟨xJ, hxJ⟩ : ∃ x : Nat, dj[ai]! = x := ⟨_, rfl⟩
        have hI : ii < m := by have := HB.out; omega
        have hJ : ai < m := hAI
        have hI' : (ii : Int) < (m : Nat) := by omega
        have hJ' : (ai : Int) < (m : Nat) := by omega
        have HSW := Lib.hid (show w'.ownsRow base 3 1 (.slice (some ⟨g, 0, none⟩) m cap) m (dj.toList.map natI) ∧ (dj.toList.map natI)[ii]? = some (.int .i64 (xI : Nat)) ∧ (dj.toList.map natI)[ai]? = some (.int .i64 (xJ : Nat)) ∧ ∀ W', W'.ownsRow base 3 1 (.slice (some ⟨g, 0, none⟩) m cap) m (((dj.toList.map natI).set ii (.int .i64 (xJ : Nat))).set ai (.int .i64 (xI : Nat))) → Kp (One g) w' W' → Srt base g m cap n w (swp dj ii ai) W' from ⟨HS.out.row, HS.out.at_ hI hxI, HS.out.at_ hJ hxJ, fun W' ho k => HS.out.swp hI hJ hxI hxJ ho k⟩)
        have HLN := Lib.hid (show (dj.toList.map natI).length = m by have := HS.out.row.1; simpa using this)
        clear hxI hxJ
        go_wp2_with fail
        refine wp_region_each (fun ix uR => match ix with | 0 => uR = .slice (some ⟨g, 0, none⟩) m cap | 1 => uR = .int .i64 (ii : Nat) | 2 => uR = .slice (some ⟨g, 0, none⟩) m cap | 3 => uR = .int .i64 (fa : Nat) | 4 => uR = .int .i64 (ot : Nat) | 5 => uR = .int .i64 (ai : Nat) | 6 => uR = .slice (some ⟨g, 0, none⟩) m cap | 7 => uR = .int .i64 (fa : Nat) | 8 => uR = .int .i64 (ot : Nat) | 9 => uR = .int .i64 (ai : Nat) | 10 => uR = .pointer (some ⟨g, ai, none⟩) | 11 => uR = .int .i64 (xJ : Nat) | 12 => uR = .slice (some ⟨g, 0, none⟩) m cap | 13 => uR = .int .i64 (ii : Nat) | 14 => uR = .pointer (some ⟨g, ii, none⟩) | 15 => uR = .int .i64 (xI : Nat) | 16 => uR = .pointer (some ⟨g, ii, none⟩) | 18 => uR = .pointer (some ⟨g, ai, none⟩) | _ => True) (Sx w' g base 3 m cap (dj.toList.map natI) ii ai (.int .i64 (xI : Nat)) (.int .i64 (xJ : Nat)) 11 15 17 19) (by kernel_rfl) (by kernel_rfl) (by kernel_rfl) ?_ ?_ ?_
        · exact Sx.start HSW.out.1 HSW.out.2.1 HSW.out.2.2.1
        · refine ⟨?_, ?_, ?_, ?_, ?_, ?_, ?_, ?_, ?_, ?_, ?_, ?_, ?_, ?_, ?_, ?_, ?_, ?_, ?_, ?_, trivial⟩
          · intro r a w' hf hg hW hr hd K hK
            refine wpOp_of rfl rfl ?_
            have e0 : a.tmps.getD 0 undef = .slice (some ⟨g, 0, none⟩) m cap := hf.evalFree (by kernel_rfl)
            go_simp
            exact hK _ _ rfl (hW.upd 0 _ (by decide) (by decide))
          · intro r a w' hf hg hW hr hd K hK
            refine wpOp_of rfl rfl ?_
            have e0 : a.tmps.getD 11 undef = .int .i64 (ii : Nat) := hf.evalFree (by kernel_rfl)
            go_simp
            exact hK _ _ rfl (hW.upd 1 _ (by decide) (by decide))
          · intro r a w' hf hg hW hr hd K hK
            refine wpOp_of rfl rfl ?_
            have e0 : a.tmps.getD 0 undef = .slice (some ⟨g, 0, none⟩) m cap := hf.evalFree (by kernel_rfl)
            go_simp
            exact hK _ _ rfl (hW.upd 2 _ (by decide) (by decide))
          · intro r a w' hf hg hW hr hd K hK
            refine wpOp_of rfl rfl ?_
            have e0 : a.tmps.getD 1 undef = .int .i64 (fa : Nat) := hf.evalFree (by kernel_rfl)
            go_simp
            exact hK _ _ rfl (hW.upd 3 _ (by decide) (by decide))
          · intro r a w' hf hg hW hr hd K hK
            refine wpOp_of rfl rfl ?_
            have e0 : a.tmps.getD 12 undef = .int .i64 (ot : Nat) := hf.evalFree (by kernel_rfl)
            go_simp
            exact hK _ _ rfl (hW.upd 4 _ (by decide) (by decide))
          · intro r a w' hf hg hW hr hd K hK
            refine wpOp_of rfl rfl ?_
            refine hf.depE hg hd 3 52 (by kernel_rfl) fun u0 e0 g0 h0 => ?_
            replace g0 : u0 = .int .i64 (fa : Nat) := g0
            subst g0
            refine hf.depE hg hd 4 53 (by kernel_rfl) fun u1 e1 g1 h1 => ?_
            replace g1 : u1 = .int .i64 (ot : Nat) := g1
            subst g1
            go_simp
            exact hK _ _ rfl (hW.upd 5 _ (by decide) (by decide))
          · intro r a w' hf hg hW hr hd K hK
            refine wpOp_of rfl rfl ?_
            have e0 : a.tmps.getD 0 undef = .slice (some ⟨g, 0, none⟩) m cap := hf.evalFree (by kernel_rfl)
            go_simp
            exact hK _ _ rfl (hW.upd 6 _ (by decide) (by decide))
          · intro r a w' hf hg hW hr hd K hK
            refine wpOp_of rfl rfl ?_
            have e0 : a.tmps.getD 1 undef = .int .i64 (fa : Nat) := hf.evalFree (by kernel_rfl)
            go_simp
            exact hK _ _ rfl (hW.upd 7 _ (by decide) (by decide))
          · intro r a w' hf hg hW hr hd K hK
            refine wpOp_of rfl rfl ?_
            have e0 : a.tmps.getD 12 undef = .int .i64 (ot : Nat) := hf.evalFree (by kernel_rfl)
            go_simp
            exact hK _ _ rfl (hW.upd 8 _ (by decide) (by decide))
          · intro r a w' hf hg hW hr hd K hK
            refine wpOp_of rfl rfl ?_
            refine hf.depE hg hd 7 56 (by kernel_rfl) fun u0 e0 g0 h0 => ?_
            replace g0 : u0 = .int .i64 (fa : Nat) := g0
            subst g0
            refine hf.depE hg hd 8 57 (by kernel_rfl) fun u1 e1 g1 h1 => ?_
            replace g1 : u1 = .int .i64 (ot : Nat) := g1
            subst g1
            go_simp
            exact hK _ _ rfl (hW.upd 9 _ (by decide) (by decide))
          · intro r a w' hf hg hW hr hd K hK
            refine wpOp_of rfl rfl ?_
            refine hf.depE hg hd 6 55 (by kernel_rfl) fun u0 e0 g0 h0 => ?_
            replace g0 : u0 = .slice (some ⟨g, 0, none⟩) m cap := g0
            subst g0
            refine hf.depE hg hd 9 58 (by kernel_rfl) fun u1 e1 g1 h1 => ?_
            replace g1 : u1 = .int .i64 (ai : Nat) := g1
            subst g1
            go_simp
            exact hK _ _ rfl (hW.upd 10 _ (by decide) (by decide))
          · intro r a w' hf hg hW hr hd K hK
            refine wpOp_of rfl rfl ?_
            refine hf.depE hg hd 10 59 (by kernel_rfl) fun u0 e0 g0 h0 => ?_
            replace g0 : u0 = .pointer (some ⟨g, ai, none⟩) := g0
            subst g0
            have z0 := hW.loadj hr
            go_simp
            exact hK _ _ rfl (hW.upd 11 _ (by decide) (by decide))
          · intro r a w' hf hg hW hr hd K hK
            refine wpOp_of rfl rfl ?_
            have e0 : a.tmps.getD 0 undef = .slice (some ⟨g, 0, none⟩) m cap := hf.evalFree (by kernel_rfl)
            go_simp
            exact hK _ _ rfl (hW.upd 12 _ (by decide) (by decide))
          · intro r a w' hf hg hW hr hd K hK
            refine wpOp_of rfl rfl ?_
            have e0 : a.tmps.getD 11 undef = .int .i64 (ii : Nat) := hf.evalFree (by kernel_rfl)
            go_simp
            exact hK _ _ rfl (hW.upd 13 _ (by decide) (by decide))
          · intro r a w' hf hg hW hr hd K hK
            refine wpOp_of rfl rfl ?_
            refine hf.depE hg hd 12 61 (by kernel_rfl) fun u0 e0 g0 h0 => ?_
            replace g0 : u0 = .slice (some ⟨g, 0, none⟩) m cap := g0
            subst g0
            refine hf.depE hg hd 13 62 (by kernel_rfl) fun u1 e1 g1 h1 => ?_
            replace g1 : u1 = .int .i64 (ii : Nat) := g1
            subst g1
            go_simp
            exact hK _ _ rfl (hW.upd 14 _ (by decide) (by decide))
          · intro r a w' hf hg hW hr hd K hK
            refine wpOp_of rfl rfl ?_
            refine hf.depE hg hd 14 63 (by kernel_rfl) fun u0 e0 g0 h0 => ?_
            replace g0 : u0 = .pointer (some ⟨g, ii, none⟩) := g0
            subst g0
            have z0 := hW.loadi hr
            go_simp
            exact hK _ _ rfl (hW.upd 15 _ (by decide) (by decide))
          · intro r a w' hf hg hW hr hd K hK
            refine wpOp_of rfl rfl ?_
            refine hf.depE hg hd 0 49 (by kernel_rfl) fun u0 e0 g0 h0 => ?_
            replace g0 : u0 = .slice (some ⟨g, 0, none⟩) m cap := g0
            subst g0
            refine hf.depE hg hd 1 50 (by kernel_rfl) fun u1 e1 g1 h1 => ?_
            replace g1 : u1 = .int .i64 (ii : Nat) := g1
            subst g1
            go_simp
            exact hK _ _ rfl (hW.upd 16 _ (by decide) (by decide))
          · intro r a w' hf hg hW hr hd K hK
            refine wpOp_of rfl rfl ?_
            refine hf.depE hg hd 16 65 (by kernel_rfl) fun u0 e0 g0 h0 => ?_
            replace g0 : u0 = .pointer (some ⟨g, ii, none⟩) := g0
            subst g0
            refine hf.depE hg hd 11 60 (by kernel_rfl) fun u1 e1 g1 h1 => ?_
            replace g1 : u1 = .int .i64 (xJ : Nat) := g1
            subst g1
            refine hf.depE hg hd 15 64 (by kernel_rfl) fun uo eo go ho => ?_
            obtain ⟨old, y0⟩ := hW.old (k := ii) hI HLN.out
            have y1 := hW.free ii
            go_simp
            exact hK undef _ trivial (hW.sta hr (by rw [ho]; simp) (by decide) undef)
          · intro r a w' hf hg hW hr hd K hK
            refine wpOp_of rfl rfl ?_
            refine hf.depE hg hd 2 51 (by kernel_rfl) fun u0 e0 g0 h0 => ?_
            replace g0 : u0 = .slice (some ⟨g, 0, none⟩) m cap := g0
            subst g0
            refine hf.depE hg hd 5 54 (by kernel_rfl) fun u1 e1 g1 h1 => ?_
            replace g1 : u1 = .int .i64 (ai : Nat) := g1
            subst g1
            go_simp
            exact hK _ _ rfl (hW.upd 18 _ (by decide) (by decide))
          · intro r a w' hf hg hW hr hd K hK
            refine wpOp_of rfl rfl ?_
            refine hf.depE hg hd 18 66 (by kernel_rfl) fun u0 e0 g0 h0 => ?_
            replace g0 : u0 = .pointer (some ⟨g, ai, none⟩) := g0
            subst g0
            refine hf.depE hg hd 15 64 (by kernel_rfl) fun u1 e1 g1 h1 => ?_
            replace g1 : u1 = .int .i64 (xI : Nat) := g1
            subst g1
            refine hf.depE hg hd 11 60 (by kernel_rfl) fun uo eo go ho => ?_
            obtain ⟨old, y0⟩ := hW.old (k := ai) hJ HLN.out
            have y1 := hW.free ai
            go_simp
            exact hK undef _ trivial (hW.stb hr (by rw [ho]; simp) (by decide) undef)
        intro r' w9 hg hW hr'
        simp only [List.length_cons, List.length_nil, Nat.reduceAdd, List.range_succ, List.range_zero, List.nil_append, List.cons_append, List.map_cons, List.map_nil, putAll, Act.put, List.setIfInBounds_toArray, List.set_cons_succ, List.set_cons_zero]
        have HK9 := Lib.hid hW.kp
        have ho9 := hW.fin (hr' 17 (by decide)) (hr' 19 (by decide))
        have HS9 := Lib.hid (HSW.out.2.2.2 _ ho9 hW.kp)
        clear hg hW hr' ho9 HSW HLN hI hJ hI' hJ'
        go_wp2_with fail
        go_roundw
        case rel => exact ⟨ii + 1, swp dj ii ai, X2, by omega, by omega, by go_num, hX3, HK9.out.cell HCN.out.1 (fun e => HG.out.1 e), (HK9.out.frozen (a := ⟨gr, 0, none⟩) HCN.out.2.2 (fun e => HG.out.1 e)).trans HCN.out.2.1, Nat.lt_of_lt_of_le HCN.out.2.2 HK9.out.size, HPN.out, HS9.out⟩
        case measure => simp [intOf]; omega
      · have hge' : (o2 : Int) < (len : Int) := by omega
        obtain ⟨ot, hot⟩ : ∃ r, r = o2 := ⟨_, rfl⟩
        subst hot
        have hot : ot < len := by omega
        obtain ⟨ai, hai⟩ : ∃ r, r = fa + ot := ⟨_, rfl⟩
        have hwi : IntKind.i64.wrap ((fa : Int) + (ot : Int)) = ((ai : Nat) : Int) := by rw [IntKind.wrap_i64]; have := HB.out; omega
        have HPN := Lib.hid (show PermIn fa fb d (swp dj ii ai) from permIn_trans _ _ _ _ _ HP.out (swp_permIn _ _ _ _ _ (by have := HB.out; omega) (by have := HB.out; omega) (by omega) (by have := HB.out; omega) (by rw [HS.out.sz]; exact hb)))
        have hAI : ai < m := by have := HB.out; omega
        clear HP hot hai
        go_wp2_with fail
        refine HNX.out.mono ?_
        rintro e w' ⟨rfl, rfl⟩
        go_wp2_with fail
        clear hol
        obtain ⟨xI, hxI⟩ : ∃ x : Nat, dj[ii]! = x := ⟨_, rfl⟩
        obtain ⟨xJ, hxJ⟩ : ∃ x : Nat, dj[ai]! = x := ⟨_, rfl⟩
        have hI : ii < m := by have := HB.out; omega
        have hJ : ai < m := hAI
        have hI' : (ii : Int) < (m : Nat) := by omega
        have hJ' : (ai : Int) < (m : Nat) := by omega
        have HSW := Lib.hid (show w'.ownsRow base 3 1 (.slice (some ⟨g, 0, none⟩) m cap) m (dj.toList.map natI) ∧ (dj.toList.map natI)[ii]? = some (.int .i64 (xI : Nat)) ∧ (dj.toList.map natI)[ai]? = some (.int .i64 (xJ : Nat)) ∧ ∀ W', W'.ownsRow base 3 1 (.slice (some ⟨g, 0, none⟩) m cap) m (((dj.toList.map natI).set ii (.int .i64 (xJ : Nat))).set ai (.int .i64 (xI : Nat))) → Kp (One g) w' W' → Srt base g m cap n w (swp dj ii ai) W' from ⟨HS.out.row, HS.out.at_ hI hxI, HS.out.at_ hJ hxJ, fun W' ho k => HS.out.swp hI hJ hxI hxJ ho k⟩)
        have HLN := Lib.hid (show (dj.toList.map natI).length = m by have := HS.out.row.1; simpa using this)
        clear hxI hxJ
        go_wp2_with fail
        refine wp_region_each (fun ix uR => match ix with | 0 => uR = .slice (some ⟨g, 0, none⟩) m cap | 1 => uR = .int .i64 (ii : Nat) | 2 => uR = .slice (some ⟨g, 0, none⟩) m cap | 3 => uR = .int .i64 (fa : Nat) | 4 => uR = .int .i64 (ot : Nat) | 5 => uR = .int .i64 (ai : Nat) | 6 => uR = .slice (some ⟨g, 0, none⟩) m cap | 7 => uR = .int .i64 (fa : Nat) | 8 => uR = .int .i64 (ot : Nat) | 9 => uR = .int .i64 (ai : Nat) | 10 => uR = .pointer (some ⟨g, ai, none⟩) | 11 => uR = .int .i64 (xJ : Nat) | 12 => uR = .slice (some ⟨g, 0, none⟩) m cap | 13 => uR = .int .i64 (ii : Nat) | 14 => uR = .pointer (some ⟨g, ii, none⟩) | 15 => uR = .int .i64 (xI : Nat) | 16 => uR = .pointer (some ⟨g, ii, none⟩) | 18 => uR = .pointer (some ⟨g, ai, none⟩) | _ => True) (Sx w' g base 3 m cap (dj.toList.map natI) ii ai (.int .i64 (xI : Nat)) (.int .i64 (xJ : Nat)) 11 15 17 19) (by kernel_rfl) (by kernel_rfl) (by kernel_rfl) ?_ ?_ ?_
        · exact Sx.start HSW.out.1 HSW.out.2.1 HSW.out.2.2.1
        · refine ⟨?_, ?_, ?_, ?_, ?_, ?_, ?_, ?_, ?_, ?_, ?_, ?_, ?_, ?_, ?_, ?_, ?_, ?_, ?_, ?_, trivial⟩
          · intro r a w' hf hg hW hr hd K hK
            refine wpOp_of rfl rfl ?_
            have e0 : a.tmps.getD 0 undef = .slice (some ⟨g, 0, none⟩) m cap := hf.evalFree (by kernel_rfl)
            go_simp
            exact hK _ _ rfl (hW.upd 0 _ (by decide) (by decide))
          · intro r a w' hf hg hW hr hd K hK
            refine wpOp_of rfl rfl ?_
            have e0 : a.tmps.getD 11 undef = .int .i64 (ii : Nat) := hf.evalFree (by kernel_rfl)
            go_simp
            exact hK _ _ rfl (hW.upd 1 _ (by decide) (by decide))
          · intro r a w' hf hg hW hr hd K hK
            refine wpOp_of rfl rfl ?_
            have e0 : a.tmps.getD 0 undef = .slice (some ⟨g, 0, none⟩) m cap := hf.evalFree (by kernel_rfl)
            go_simp
            exact hK _ _ rfl (hW.upd 2 _ (by decide) (by decide))
          · intro r a w' hf hg hW hr hd K hK
            refine wpOp_of rfl rfl ?_
            have e0 : a.tmps.getD 1 undef = .int .i64 (fa : Nat) := hf.evalFree (by kernel_rfl)
            go_simp
            exact hK _ _ rfl (hW.upd 3 _ (by decide) (by decide))
          · intro r a w' hf hg hW hr hd K hK
            refine wpOp_of rfl rfl ?_
            have e0 : a.tmps.getD 12 undef = .int .i64 (ot : Nat) := hf.evalFree (by kernel_rfl)
            go_simp
            exact hK _ _ rfl (hW.upd 4 _ (by decide) (by decide))
          · intro r a w' hf hg hW hr hd K hK
            refine wpOp_of rfl rfl ?_
            refine hf.depE hg hd 3 52 (by kernel_rfl) fun u0 e0 g0 h0 => ?_
            replace g0 : u0 = .int .i64 (fa : Nat) := g0
            subst g0
            refine hf.depE hg hd 4 53 (by kernel_rfl) fun u1 e1 g1 h1 => ?_
            replace g1 : u1 = .int .i64 (ot : Nat) := g1
            subst g1
            go_simp
            exact hK _ _ rfl (hW.upd 5 _ (by decide) (by decide))
          · intro r a w' hf hg hW hr hd K hK
            refine wpOp_of rfl rfl ?_
            have e0 : a.tmps.getD 0 undef = .slice (some ⟨g, 0, none⟩) m cap := hf.evalFree (by kernel_rfl)
            go_simp
            exact hK _ _ rfl (hW.upd 6 _ (by decide) (by decide))
          · intro r a w' hf hg hW hr hd K hK
            refine wpOp_of rfl rfl ?_
            have e0 : a.tmps.getD 1 undef = .int .i64 (fa : Nat) := hf.evalFree (by kernel_rfl)
            go_simp
            exact hK _ _ rfl (hW.upd 7 _ (by decide) (by decide))
          · intro r a w' hf hg hW hr hd K hK
            refine wpOp_of rfl rfl ?_
            have e0 : a.tmps.getD 12 undef = .int .i64 (ot : Nat) := hf.evalFree (by kernel_rfl)
            go_simp
            exact hK _ _ rfl (hW.upd 8 _ (by decide) (by decide))
          · intro r a w' hf hg hW hr hd K hK
            refine wpOp_of rfl rfl ?_
            refine hf.depE hg hd 7 56 (by kernel_rfl) fun u0 e0 g0 h0 => ?_
            replace g0 : u0 = .int .i64 (fa : Nat) := g0
            subst g0
            refine hf.depE hg hd 8 57 (by kernel_rfl) fun u1 e1 g1 h1 => ?_
            replace g1 : u1 = .int .i64 (ot : Nat) := g1
            subst g1
            go_simp
            exact hK _ _ rfl (hW.upd 9 _ (by decide) (by decide))
          · intro r a w' hf hg hW hr hd K hK
            refine wpOp_of rfl rfl ?_
            refine hf.depE hg hd 6 55 (by kernel_rfl) fun u0 e0 g0 h0 => ?_
            replace g0 : u0 = .slice (some ⟨g, 0, none⟩) m cap := g0
            subst g0
            refine hf.depE hg hd 9 58 (by kernel_rfl) fun u1 e1 g1 h1 => ?_
            replace g1 : u1 = .int .i64 (ai : Nat) := g1
            subst g1
            go_simp
            exact hK _ _ rfl (hW.upd 10 _ (by decide) (by decide))
          · intro r a w' hf hg hW hr hd K hK
            refine wpOp_of rfl rfl ?_
            refine hf.depE hg hd 10 59 (by kernel_rfl) fun u0 e0 g0 h0 => ?_
            replace g0 : u0 = .pointer (some ⟨g, ai, none⟩) := g0
            subst g0
            have z0 := hW.loadj hr
            go_simp
            exact hK _ _ rfl (hW.upd 11 _ (by decide) (by decide))
          · intro r a w' hf hg hW hr hd K hK
            refine wpOp_of rfl rfl ?_
            have e0 : a.tmps.getD 0 undef = .slice (some ⟨g, 0, none⟩) m cap := hf.evalFree (by kernel_rfl)
            go_simp
            exact hK _ _ rfl (hW.upd 12 _ (by decide) (by decide))
          · intro r a w' hf hg hW hr hd K hK
            refine wpOp_of rfl rfl ?_
            have e0 : a.tmps.getD 11 undef = .int .i64 (ii : Nat) := hf.evalFree (by kernel_rfl)
            go_simp
            exact hK _ _ rfl (hW.upd 13 _ (by decide) (by decide))
          · intro r a w' hf hg hW hr hd K hK
            refine wpOp_of rfl rfl ?_
            refine hf.depE hg hd 12 61 (by kernel_rfl) fun u0 e0 g0 h0 => ?_
            replace g0 : u0 = .slice (some ⟨g, 0, none⟩) m cap := g0
            subst g0
            refine hf.depE hg hd 13 62 (by kernel_rfl) fun u1 e1 g1 h1 => ?_
            replace g1 : u1 = .int .i64 (ii : Nat) := g1
            subst g1
            go_simp
            exact hK _ _ rfl (hW.upd 14 _ (by decide) (by decide))
          · intro r a w' hf hg hW hr hd K hK
            refine wpOp_of rfl rfl ?_
            refine hf.depE hg hd 14 63 (by kernel_rfl) fun u0 e0 g0 h0 => ?_
            replace g0 : u0 = .pointer (some ⟨g, ii, none⟩) := g0
            subst g0
            have z0 := hW.loadi hr
            go_simp
            exact hK _ _ rfl (hW.upd 15 _ (by decide) (by decide))
          · intro r a w' hf hg hW hr hd K hK
            refine wpOp_of rfl rfl ?_
            refine hf.depE hg hd 0 49 (by kernel_rfl) fun u0 e0 g0 h0 => ?_
            replace g0 : u0 = .slice (some ⟨g, 0, none⟩) m cap := g0
            subst g0
            refine hf.depE hg hd 1 50 (by kernel_rfl) fun u1 e1 g1 h1 => ?_
            replace g1 : u1 = .int .i64 (ii : Nat) := g1
            subst g1
            go_simp
            exact hK _ _ rfl (hW.upd 16 _ (by decide) (by decide))
          · intro r a w' hf hg hW hr hd K hK
            refine wpOp_of rfl rfl ?_
            refine hf.depE hg hd 16 65 (by kernel_rfl) fun u0 e0 g0 h0 => ?_
            replace g0 : u0 = .pointer (some ⟨g, ii, none⟩) := g0
            subst g0
            refine hf.depE hg hd 11 60 (by kernel_rfl) fun u1 e1 g1 h1 => ?_
            replace g1 : u1 = .int .i64 (xJ : Nat) := g1
            subst g1
            refine hf.depE hg hd 15 64 (by kernel_rfl) fun uo eo go ho => ?_
            obtain ⟨old, y0⟩ := hW.old (k := ii) hI HLN.out
            have y1 := hW.free ii
            go_simp
            exact hK undef _ trivial (hW.sta hr (by rw [ho]; simp) (by decide) undef)
          · intro r a w' hf hg hW hr hd K hK
            refine wpOp_of rfl rfl ?_
            refine hf.depE hg hd 2 51 (by kernel_rfl) fun u0 e0 g0 h0 => ?_
            replace g0 : u0 = .slice (some ⟨g, 0, none⟩) m cap := g0
            subst g0
            refine hf.depE hg hd 5 54 (by kernel_rfl) fun u1 e1 g1 h1 => ?_
            replace g1 : u1 = .int .i64 (ai : Nat) := g1
            subst g1
            go_simp
            exact hK _ _ rfl (hW.upd 18 _ (by decide) (by decide))
          · intro r a w' hf hg hW hr hd K hK
            refine wpOp_of rfl rfl ?_
            refine hf.depE hg hd 18 66 (by kernel_rfl) fun u0 e0 g0 h0 => ?_
            replace g0 : u0 = .pointer (some ⟨g, ai, none⟩) := g0
            subst g0
            refine hf.depE hg hd 15 64 (by kernel_rfl) fun u1 e1 g1 h1 => ?_
            replace g1 : u1 = .int .i64 (xI : Nat) := g1
            subst g1
            refine hf.depE hg hd 11 60 (by kernel_rfl) fun uo eo go ho => ?_
            obtain ⟨old, y0⟩ := hW.old (k := ai) hJ HLN.out
            have y1 := hW.free ai
            go_simp
            exact hK undef _ trivial (hW.stb hr (by rw [ho]; simp) (by decide) undef)
        intro r' w9 hg hW hr'
        simp only [List.length_cons, List.length_nil, Nat.reduceAdd, List.range_succ, List.range_zero, List.nil_append, List.cons_append, List.map_cons, List.map_nil, putAll, Act.put, List.setIfInBounds_toArray, List.set_cons_succ, List.set_cons_zero]
        have HK9 := Lib.hid hW.kp
        have ho9 := hW.fin (hr' 17 (by decide)) (hr' 19 (by decide))
        have HS9 := Lib.hid (HSW.out.2.2.2 _ ho9 hW.kp)
        clear hg hW hr' ho9 HSW HLN hI hJ hI' hJ'
        go_wp2_with fail
        go_roundw
        case rel => exact ⟨ii + 1, swp dj ii ai, X2, by omega, by omega, by go_num, hX3, HK9.out.cell HCN.out.1 (fun e => HG.out.1 e), (HK9.out.frozen (a := ⟨gr, 0, none⟩) HCN.out.2.2 (fun e => HG.out.1 e)).trans HCN.out.2.1, Nat.lt_of_lt_of_le HCN.out.2.2 HK9.out.size, HPN.out, HS9.out⟩
        case measure => simp [intOf]; omega
    · have hlt' : (fa : Int) + (q4 : Int) * 2 + 1 < (ii : Int) := by have := HB.out; omega
      have HP := Lib.hid hp
      have HS := Lib.hid hsr
      clear hp hsr hc hf hgz hX
      go_wp2_with fail
      go_end0
      exact ⟨rfl, dj, HP.out, HS.out⟩
end Go.Proofs.Ytamjhpdgclbfgaa
