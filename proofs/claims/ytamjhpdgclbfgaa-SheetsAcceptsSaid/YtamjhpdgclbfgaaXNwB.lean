/- Chapter 09: spots: the walk. -/
import Derived.StillTailTactics
import Derived.Test.YtamjhpdgclbfgaaXSrtIM
import Derived.Test.YtamjhpdgclbfgaaXNwA
import Derived.Test.YtamjhpdgclbfgaaXCspM
import Derived.Test.YtamjhpdgclbfgaaXLibRowM
namespace Go.Proofs.Ytamjhpdgclbfgaa
open Go.RowKit Go.Kq

theorem infoL : (Try.prog.info? 2).map (fun i => (i.zero, i.size, i.bytes)) = some (some (.int .i64 0), 1, 8) := by kernel_rfl
theorem infoSp : (Try.prog.info? 52).map (fun i => (i.zero, i.size, i.bytes)) = some (some (.agg #[.int .i64 0, .int .i64 0, .int .i64 0, .int .i64 0]), 4, 32) := by kernel_rfl
theorem flat_one {α : Type} (f : α → Value) : ∀ l : List α, l.flatMap (fun x => [f x]) = l.map f
  | [] => rfl
  | x :: l => by rw [List.flatMap_cons, flat_one f l]; rfl
def zL (m : Nat) : Array Value := ((List.replicate m (0 : Int)).map i64V).toArray
theorem make_l (m : Nat) (hm : m ≤ 100000) (w : World) : (Instr.makeSlice 58 (.int .i64 (m : Nat)) (.int .i64 (m : Nat))).run Try.prog w = .ok (.slice (some ⟨w.heap.size, 0, none⟩) m m) (w.alloc (.cells (zL m) 2)) := by
  obtain ⟨i0, hi, hz0, hz1, hz2⟩ := info_parts infoL
  have := run_make_flat w (fun x : Int => [i64V x]) 0 _ _ i0 _ 1 8 m Try.underlying58 hi hz0 hz1 hz2 (by decide) rfl rfl (by omega) (by omega)
  rwa [flat_one] at this
theorem spo_one (s : Spo) : ∀ u ∈ s.cells, u.oneCell' = true := fun u hu => by
  simp [Spo.cells] at hu
  rcases hu with rfl | rfl | rfl | rfl <;> rfl
theorem own_zero {w : World} {base g m : Nat} (hb : base ≤ g) (hm : m ≤ 100000) (h : w.heap[g]? = some (.cells (zL m) 2 (0, 0))) : w.ownsRow base 2 1 (.slice (some ⟨g, 0, none⟩) m m) m ((List.replicate m (0 : Int)).map i64V) :=
  ⟨by simp, .inr ⟨g, m, _, rfl, hb, h, Nat.le_refl _, by unfold maxLen; omega, by simp [zL], by simp [zL]⟩⟩
set_option maxHeartbeats 4000000 in
set_option maxRecDepth 100000 in
theorem spots_any (P : Pt) (A : Option Addr) (n ca : Nat) (l : List Ct) (aS aO aH aU : Option Addr) (cS cO cH cU : Nat) (vW bv : Value) (l0 l1 : Int) (S O : List Nat) (H : List Int) (m u nb : Nat) (w : World)
    (hb : w.heap[nb]? = some (.cells #[.int .i64 P.w, .int .i64 P.h, .int .i64 P.k, .slice A n ca, .slice aS n cS, .slice aO m cO, vW, .slice aH m cH, .slice aU u cU, .int .i64 0, bv, .int .i64 l0, .int .i64 l1] 61 (0, 0)))
    (hS : RdI .i64 w aS n (S.map Int.ofNat)) (hO : RdI .i64 w aO m (O.map Int.ofNat)) (hH : RdI .i64 w aH m H) (hl : RdC w A n l) (hn : n ≤ 8) (hm : m ≤ 8) (hu : u ≤ 8) (sS : ∀ s ∈ S, s < m) (sO : ∀ o ∈ O, o < u) (bH : bdL 20000000 H) (bC : ∀ c ∈ l, 0 ≤ c.w ∧ c.w ≤ 20000000) (bK : 0 ≤ P.k ∧ P.k ≤ 50000) :
    Calls Try.prog 110 #[.pointer (some ⟨nb, 0, none⟩)] w fun e w' => ∃ g cp, e = .returned (.slice (some ⟨g, 0, none⟩) n cp) ∧ w'.ownsRow w.heap.size 52 4 (.slice (some ⟨g, 0, none⟩) n cp) n ((spotsF P.k l S O H u).flatMap Spo.cells) ∧ Kp No w w' := by
  have hSl : S.length = n := by have := hS.1; simpa using this
  have hOl : O.length = m := by have := hO.1; simpa using this
  have hHl : H.length = m := hH.1
  have hll : l.length = n := hl.1
  obtain ⟨i0, hi0, hz0, hz1, hz2⟩ := info_parts infoSp
  have HB := Lib.hid hb
  have HS := Lib.hid hS
  have HO := Lib.hid hO
  have HH := Lib.hid hH
  have HL := Lib.hid hl
  have HSS := Lib.hid sS
  have HSO := Lib.hid sO
  have HBH := Lib.hid bH
  have HBC := Lib.hid bC
  have HLEN := Lib.hid (And.intro hSl (And.intro hOl (And.intro hHl hll)))
  have b4 : w.cell? ⟨nb, 4, none⟩ = some (.slice aS n cS) := by rw [cell_of_row _ _ _ _ _ _ hb]; rfl
  have b5 : w.cell? ⟨nb, 5, none⟩ = some (.slice aO m cO) := by rw [cell_of_row _ _ _ _ _ _ hb]; rfl
  have b7 : w.cell? ⟨nb, 7, none⟩ = some (.slice aH m cH) := by rw [cell_of_row _ _ _ _ _ _ hb]; rfl
  have b8 : w.cell? ⟨nb, 8, none⟩ = some (.slice aU u cU) := by rw [cell_of_row _ _ _ _ _ _ hb]; rfl
  have b2 : w.cell? ⟨nb, 2, none⟩ = some (.int .i64 P.k) := by rw [cell_of_row _ _ _ _ _ _ hb]; rfl
  have b3 : w.cell? ⟨nb, 3, none⟩ = some (.slice A n ca) := by rw [cell_of_row _ _ _ _ _ _ hb]; rfl
  have MK := Lib.hid make_l
  clear hb hS hO hH hl sS sO bH bC hSl hOl hHl hll
  go_enter Try.func110, Try.ntmps110
  go_wp2_with fail
  refine wp_region_each (fun ix uR => match ix with | 0 => uR = .pointer (some ⟨nb, 0, none⟩) | 1 => uR = .pointer (some ⟨nb, 0, none⟩) | 2 => uR = .pointer (some ⟨nb, 7, none⟩) | 3 => uR = .slice aH m cH | 4 => uR = .int .i64 (m : Nat) | 6 => uR = .pointer (some ⟨nb, 0, none⟩) | 7 => uR = .pointer (some ⟨nb, 0, none⟩) | 8 => uR = .pointer (some ⟨nb, 7, none⟩) | 9 => uR = .slice aH m cH | 10 => uR = .int .i64 (m : Nat) | _ => True)
    (fun r w' => BxW w [(⟨5, 999, 2, zL m, zL m, slcV m⟩ : Bx), ⟨11, 998, 2, zL m, zL m, slcV m⟩] r w' ∧ (∀ u, r 12 = some u → r 5 = some u) ∧ (∀ u, r 13 = some u → r 11 = some u)) (by kernel_rfl) (by kernel_rfl) (by kernel_rfl) ?_ ?_ ?_
  · exact ⟨BxW.start _ _, fun u h => (by cases h), fun u h => (by cases h)⟩
  · have up : ∀ (r : Nat → Option Value) (w' : World) (i : Nat) (v : Value), i ≠ 5 → i ≠ 11 → i ≠ 12 → i ≠ 13 → i ≠ 999 → i ≠ 998 → (BxW w [(⟨5, 999, 2, zL m, zL m, slcV m⟩ : Bx), ⟨11, 998, 2, zL m, zL m, slcV m⟩] r w' ∧ (∀ u, r 12 = some u → r 5 = some u) ∧ (∀ u, r 13 = some u → r 11 = some u)) → (BxW w [(⟨5, 999, 2, zL m, zL m, slcV m⟩ : Bx), ⟨11, 998, 2, zL m, zL m, slcV m⟩] (Kq.upd r i v) w' ∧ (∀ u, Kq.upd r i v 12 = some u → Kq.upd r i v 5 = some u) ∧ (∀ u, Kq.upd r i v 13 = some u → Kq.upd r i v 11 = some u)) := fun r w' i v h1 h2 h3 h4 h5 h6 h => by
      rw [upd_ne _ _ h1.symm, upd_ne _ _ h2.symm, upd_ne _ _ h3.symm, upd_ne _ _ h4.symm]
      exact ⟨h.1.upd (by simp [freeOf, h1.symm, h2.symm, h5.symm, h6.symm]) v, h.2⟩
    have UP := Lib.hid up
    clear up
    refine ⟨?_, ?_, ?_, ?_, ?_, ?_, ?_, ?_, ?_, ?_, ?_, ?_, ?_, ?_, trivial⟩
    · intro r a w' hf hg hW hr hd K hK
      refine wpOp_of rfl rfl ?_
      have e0 : a.tmps.getD 0 undef = .pointer (some ⟨nb, 0, none⟩) := hf.evalFree (by kernel_rfl)
      go_simp
      exact hK _ _ rfl (UP.out _ _ _ _ (by decide) (by decide) (by decide) (by decide) (by decide) (by decide) hW)
    · intro r a w' hf hg hW hr hd K hK
      refine wpOp_of rfl rfl ?_
      refine hf.depE hg hd 0 11 (by kernel_rfl) fun u0 e0 g0 _ => ?_
      replace g0 : u0 = .pointer (some ⟨nb, 0, none⟩) := g0
      subst g0
      go_simp
      exact hK _ _ rfl (UP.out _ _ _ _ (by decide) (by decide) (by decide) (by decide) (by decide) (by decide) hW)
    · intro r a w' hf hg hW hr hd K hK
      refine wpOp_of rfl rfl ?_
      refine hf.depE hg hd 1 12 (by kernel_rfl) fun u0 e0 g0 _ => ?_
      replace g0 : u0 = .pointer (some ⟨nb, 0, none⟩) := g0
      subst g0
      go_simp
      exact hK _ _ rfl (UP.out _ _ _ _ (by decide) (by decide) (by decide) (by decide) (by decide) (by decide) hW)
    · intro r a w' hf hg hW hr hd K hK
      refine wpOp_of rfl rfl ?_
      refine hf.depE hg hd 2 13 (by kernel_rfl) fun u0 e0 g0 _ => ?_
      replace g0 : u0 = .pointer (some ⟨nb, 7, none⟩) := g0
      subst g0
      have z0 := hW.1.kp.cell b7 id
      go_simp
      exact hK _ _ rfl (UP.out _ _ _ _ (by decide) (by decide) (by decide) (by decide) (by decide) (by decide) hW)
    · intro r a w' hf hg hW hr hd K hK
      refine wpOp_of rfl rfl ?_
      refine hf.depE hg hd 3 14 (by kernel_rfl) fun u0 e0 g0 _ => ?_
      replace g0 : u0 = .slice aH m cH := g0
      subst g0
      go_simp
      exact hK _ _ rfl (UP.out _ _ _ _ (by decide) (by decide) (by decide) (by decide) (by decide) (by decide) hW)
    · intro r a w' hf hg hW hr hd K hK
      refine wpOp_of rfl rfl ?_
      refine hf.depE hg hd 4 15 (by kernel_rfl) fun u0 e0 g0 _ => ?_
      replace g0 : u0 = .int .i64 (m : Nat) := g0
      subst g0
      have mk := MK.out m (by omega) w'
      go_simp
      refine hK _ _ trivial ⟨hW.1.alloc (by kernel_rfl) (x := ⟨5, 999, 2, zL m, zL m, slcV m⟩) (by simp) hr (fun y hy => by simp only [List.mem_cons, List.not_mem_nil, or_false] at hy; rcases hy with rfl | rfl <;> exact fun h => slcV_inj m h) (fun y hy => by simp only [List.mem_cons, List.not_mem_nil, or_false] at hy; rcases hy with rfl | rfl <;> simp), fun u hu => ?_, fun u hu => ?_⟩
      · rw [upd_ne _ _ (by decide)] at hu
        exact absurd (hW.2.1 u hu) (by rw [hr]; simp)
      · rw [upd_ne _ _ (by decide)] at hu ⊢
        exact hW.2.2 u hu
    · intro r a w' hf hg hW hr hd K hK
      refine wpOp_of rfl rfl ?_
      have e0 : a.tmps.getD 0 undef = .pointer (some ⟨nb, 0, none⟩) := hf.evalFree (by kernel_rfl)
      go_simp
      exact hK _ _ rfl (UP.out _ _ _ _ (by decide) (by decide) (by decide) (by decide) (by decide) (by decide) hW)
    · intro r a w' hf hg hW hr hd K hK
      refine wpOp_of rfl rfl ?_
      refine hf.depE hg hd 6 17 (by kernel_rfl) fun u0 e0 g0 _ => ?_
      replace g0 : u0 = .pointer (some ⟨nb, 0, none⟩) := g0
      subst g0
      go_simp
      exact hK _ _ rfl (UP.out _ _ _ _ (by decide) (by decide) (by decide) (by decide) (by decide) (by decide) hW)
    · intro r a w' hf hg hW hr hd K hK
      refine wpOp_of rfl rfl ?_
      refine hf.depE hg hd 7 18 (by kernel_rfl) fun u0 e0 g0 _ => ?_
      replace g0 : u0 = .pointer (some ⟨nb, 0, none⟩) := g0
      subst g0
      go_simp
      exact hK _ _ rfl (UP.out _ _ _ _ (by decide) (by decide) (by decide) (by decide) (by decide) (by decide) hW)
    · intro r a w' hf hg hW hr hd K hK
      refine wpOp_of rfl rfl ?_
      refine hf.depE hg hd 8 19 (by kernel_rfl) fun u0 e0 g0 _ => ?_
      replace g0 : u0 = .pointer (some ⟨nb, 7, none⟩) := g0
      subst g0
      have z0 := hW.1.kp.cell b7 id
      go_simp
      exact hK _ _ rfl (UP.out _ _ _ _ (by decide) (by decide) (by decide) (by decide) (by decide) (by decide) hW)
    · intro r a w' hf hg hW hr hd K hK
      refine wpOp_of rfl rfl ?_
      refine hf.depE hg hd 9 20 (by kernel_rfl) fun u0 e0 g0 _ => ?_
      replace g0 : u0 = .slice aH m cH := g0
      subst g0
      go_simp
      exact hK _ _ rfl (UP.out _ _ _ _ (by decide) (by decide) (by decide) (by decide) (by decide) (by decide) hW)
    · intro r a w' hf hg hW hr hd K hK
      refine wpOp_of rfl rfl ?_
      refine hf.depE hg hd 10 21 (by kernel_rfl) fun u0 e0 g0 _ => ?_
      replace g0 : u0 = .int .i64 (m : Nat) := g0
      subst g0
      have mk := MK.out m (by omega) w'
      go_simp
      refine hK _ _ trivial ⟨hW.1.alloc (by kernel_rfl) (x := ⟨11, 998, 2, zL m, zL m, slcV m⟩) (by simp) hr (fun y hy => by simp only [List.mem_cons, List.not_mem_nil, or_false] at hy; rcases hy with rfl | rfl <;> exact fun h => slcV_inj m h) (fun y hy => by simp only [List.mem_cons, List.not_mem_nil, or_false] at hy; rcases hy with rfl | rfl <;> simp), fun u hu => ?_, fun u hu => ?_⟩
      · rw [upd_ne _ _ (by decide)] at hu ⊢
        exact hW.2.1 u hu
      · rw [upd_ne _ _ (by decide)] at hu
        exact absurd (hW.2.2 u hu) (by rw [hr]; simp)
    · intro r a w' hf hg hW hr hd K hK
      refine wpOp_of rfl rfl ?_
      refine hf.depE hg hd 5 16 (by kernel_rfl) fun u0 e0 _ h0 => ?_
      go_simp
      refine hK _ _ trivial ⟨hW.1.upd (by kernel_rfl) _, fun u hu => ?_, fun u hu => ?_⟩
      · rw [upd_same] at hu
        rw [upd_ne _ _ (by decide), h0, hu]
      · rw [upd_ne _ _ (by decide)] at hu ⊢
        exact hW.2.2 u hu
    · intro r a w' hf hg hW hr hd K hK
      refine wpOp_of rfl rfl ?_
      refine hf.depE hg hd 11 22 (by kernel_rfl) fun u0 e0 _ h0 => ?_
      go_simp
      refine hK _ _ trivial ⟨hW.1.upd (by kernel_rfl) _, fun u hu => ?_, fun u hu => ?_⟩
      · rw [upd_ne _ _ (by decide)] at hu ⊢
        exact hW.2.1 u hu
      · rw [upd_same] at hu
        rw [upd_ne _ _ (by decide), h0, hu]
  intro r' w1 hg hW hr'
  obtain ⟨q12, hq12⟩ := Option.ne_none_iff_exists'.1 (hr' 12 (by decide))
  obtain ⟨q13, hq13⟩ := Option.ne_none_iff_exists'.1 (hr' 13 (by decide))
  have h5 := hW.2.1 _ hq12
  have h11 := hW.2.2 _ hq13
  obtain ⟨gy, hy, hy1, hy2, hyh⟩ := hW.1.box ⟨5, 999, 2, zL m, zL m, slcV m⟩ (by simp) q12 h5
  obtain ⟨gx, hx, hx1, hx2, hxh⟩ := hW.1.box ⟨11, 998, 2, zL m, zL m, slcV m⟩ (by simp) q13 h11
  subst hy hx
  have hxy : gy ≠ gx := hW.1.ne ⟨5, 999, 2, zL m, zL m, slcV m⟩ (by simp) ⟨11, 998, 2, zL m, zL m, slcV m⟩ (by simp) (by simp) gy gx h5 h11
  have hk1 := hW.1.kp
  simp only [ite_self] at hyh hxh
  have OY1 := Lib.hid (own_zero hy1 (by omega) hyh)
  have OX1 := Lib.hid (own_zero hx1 (by omega) hxh)
  have HK1 := Lib.hid hk1
  have b8' := hk1.cell b8 id
  have HM3 := Lib.hid (And.intro hy1 (And.intro hx1 (And.intro hxy (And.intro hy2 hx2))))
  simp only [List.length_cons, List.length_nil, Nat.reduceAdd, List.range_succ, List.range_zero, List.nil_append, List.cons_append, List.map_cons, List.map_nil, putAll, Act.put, List.setIfInBounds_toArray, List.set_cons_succ, List.set_cons_zero, hq12, hq13, Option.getD_some, slcV]
  clear hg hW hr' hq12 hq13 h5 h11 hy1 hx1 hxy hy2 hx2 hyh hxh hk1
  have mk := MK.out u (by omega) w1
  have b5' := HK1.out.cell b5 id
  have hnb : nb < w1.heap.size := World.block_lt_of_cell? _ _ b5'
  go_wp2_with fail
  have hk2 : Kp No w1 (w1.alloc (.cells (zL u) 2)) := Kp.alloc _ _ _
  have hth : (w1.alloc (.cells (zL u) 2)).heap[w1.heap.size]? = some (.cells (zL u) 2 (0, 0)) := heap_alloc_new _ _
  have HT0 := Lib.hid (own_zero (base := w.heap.size) HK1.out.size (by omega) hth)
  have HK2 := Lib.hid (HK1.out.tr hk2)
  have OY2 := Lib.hid (hk2.owns OY1.out fun _ _ h => h)
  have OX2 := Lib.hid (hk2.owns OX1.out fun _ _ h => h)
  obtain ⟨gt, hgt⟩ : ∃ gt, gt = w1.heap.size := ⟨_, rfl⟩
  have HGT := Lib.hid (show gt ≠ gy ∧ gt ≠ gx by have := HM3.out; omega)
  rw [← hgt] at HT0 ⊢
  generalize w1.alloc (.cells (zL u) 2) = w2 at *
  clear hk2 hth OY1 OX1 mk b5' b8' hnb hgt HK1
  have HKK := Lib.hid bK
  go_loopw [34] (fun i wr => ∃ k : Nat, k ≤ m ∧ i = .int .i64 k ∧ wr.ownsRow w.heap.size 2 1 (.slice (some ⟨gy, 0, none⟩) m m) m ((yF P.k ((O.zip H).take k) (List.replicate u 0) ++ List.replicate (m - k) 0).map i64V)
      ∧ wr.ownsRow w.heap.size 2 1 (.slice (some ⟨gt, 0, none⟩) u u) u ((topF P.k ((O.zip H).take k) (List.replicate u 0)).map i64V)
      ∧ wr.ownsRow w.heap.size 2 1 (.slice (some ⟨gx, 0, none⟩) m m) m ((List.replicate m (0 : Int)).map i64V) ∧ bdL (k * 20050000) (topF P.k ((O.zip H).take k) (List.replicate u 0)) ∧ Kp No w wr) (fun i _ => m - (intOf i).toNat)
  case atStart =>
    refine ⟨0, by omega, rfl, ?_, ?_, OX2.out, ?_, HK2.out⟩
    · simpa [yF] using OY2.out
    · simpa [topF] using HT0.out
    · simpa [topF] using bdL_zero u
  case round =>
    obtain ⟨k, hk, rfl, hoy, hot, hox, hbd, hkp⟩ := hrel
    have OY := Lib.hid hoy
    have OT := Lib.hid hot
    have OX := Lib.hid hox
    have HBD := Lib.hid hbd
    have HK := Lib.hid hkp
    clear hoy hot hox hbd hkp OY2 OX2 HT0 HK2
    by_cases hlt : k < m
    · obtain ⟨o, hok⟩ : ∃ o, O[k]? = some o := ⟨_, List.getElem?_eq_getElem (by rw [HLEN.out.2.1]; exact hlt)⟩
      obtain ⟨h, hhk⟩ : ∃ h, H[k]? = some h := ⟨_, List.getElem?_eq_getElem (by rw [HLEN.out.2.2.1]; exact hlt)⟩
      obtain ⟨bo, oo, rfl, hbo, co⟩ := HO.out.2 k (o : Int) (map_at' Int.ofNat hok)
      obtain ⟨bh, oh, rfl, hbh, ch⟩ := HH.out.2 k h hhk
      have hou := HSO.out o (List.mem_of_getElem? hok)
      have hhb := HBH.out h (List.mem_of_getElem? hhk)
      have hTl : (topF P.k ((O.zip H).take k) (List.replicate u 0)).length = u := by rw [topF_len, List.length_replicate]
      obtain ⟨tv, htv⟩ : ∃ tv, tv = (topF P.k ((O.zip H).take k) (List.replicate u 0)).getD o 0 := ⟨_, rfl⟩
      have htb := bdL_at HBD.out (by omega) o
      rw [← htv] at htb
      have cT : wr.cell? ⟨gt, o, none⟩ = some (.int .i64 tv) := own_cell OT.out (map_at' i64V (by rw [htv]; exact getD_at' (by rw [hTl]; exact hou)))
      have hyl : (yF P.k ((O.zip H).take k) (List.replicate u 0)).length = k := by rw [yF_len, List.length_take, List.length_zip, HLEN.out.2.1, HLEN.out.2.2.1]; omega
      obtain ⟨yo, cY⟩ : ∃ old, wr.cell? ⟨gy, k, none⟩ = some old := ⟨_, own_cell OY.out (List.getElem?_eq_getElem (by simp [hyl]; omega))⟩
      have fY := own_free OY.out k
      have co' := HK.out.cell co id
      have b5' := HK.out.cell b5 id
      have HZ := Lib.hid (zip_at hok hhk)
      have HYV := Lib.hid (show ((yF P.k ((O.zip H).take k) (List.replicate u 0) ++ List.replicate (m - k) 0).map i64V).set k (i64V tv) = (yF P.k ((O.zip H).take (k + 1)) (List.replicate u 0) ++ List.replicate (m - (k + 1)) 0).map i64V by
        rw [HZ.out, yF_snoc, ← htv, ← List.map_set]
        have e := set_pad (yF P.k ((O.zip H).take k) (List.replicate u 0)) tv 0 (m - (k + 1))
        rw [hyl, show m - (k + 1) + 1 = m - k by omega] at e
        rw [e])
      have HTV := Lib.hid (show ((topF P.k ((O.zip H).take k) (List.replicate u 0)).map i64V).set o (i64V (tv + (h + P.k))) = (topF P.k ((O.zip H).take (k + 1)) (List.replicate u 0)).map i64V by
        rw [HZ.out, topF_snoc, ← htv, ← List.map_set])
      have HBN := Lib.hid (show bdL ((k + 1 : Nat) * 20050000) (topF P.k ((O.zip H).take (k + 1)) (List.replicate u 0)) by
        rw [HZ.out, topF_snoc, ← htv]
        have := HKK.out
        exact bdL_set HBD.out (by omega) o (by omega))
      clear htv hTl hyl hok hhk
      go_wp2_with fail
      have hk3 : Kp (One gy) wr (wr.setCell ⟨gy, k, none⟩ (.int .i64 tv)) := kp_setOne _ _ _ _
      have OY3 := Lib.hid (HYV.out ▸ own_set OY.out k (i64V tv))
      have OT3 := Lib.hid (hk3.owns OT.out fun g hg e => by have e : g = gy := e; cases hg; exact HGT.out.1 e)
      have OX3 := Lib.hid (hk3.owns OX.out fun g hg e => by have e : g = gy := e; cases hg; exact HM3.out.2.2.1 e.symm)
      have HK3 := Lib.hid (HK.out.trans hk3 fun g hg e => by have e : g = gy := e; have := HM3.out.1; omega)
      have cT3 := hk3.cell cT (fun e => HGT.out.1 e)
      have fT3 := own_free OT3.out o
      have ch3 := HK3.out.cell ch id
      have b73 := HK3.out.cell b7 id
      have b23 := HK3.out.cell b2 id
      clear hk3 cT cY fY co' b5' OY OT OX HK HYV HBD
      simp only [i64V] at OY3
      generalize wr.setCell ⟨gy, k, none⟩ (.int .i64 tv) = w3 at *
      refine wp_region_still_tail 20 (by kernel_rfl) (by kernel_rfl) ?_
      simp only [List.take_succ_cons, List.take_zero, List.drop_succ_cons, List.drop_zero]
      repeat still_step
      refine wpStill_nil ?_
      change wpList _ _ _ _ _ w3.drew
      have hk4 : Kp No w3 w3.drew := Kp.drew _ _
      have OY4 := Lib.hid (hk4.owns OY3.out fun _ _ e => e)
      have OT4 := Lib.hid (hk4.owns OT3.out fun _ _ e => e)
      have OX4 := Lib.hid (hk4.owns OX3.out fun _ _ e => e)
      have HK4 := Lib.hid (HK3.out.tr hk4)
      have cT4 := hk4.cell cT3 id
      have fT4 := own_free OT4.out o
      clear hk4 cT3 fT3 ch3 b73 b23 OY3 OT3 OX3 HK3
      generalize w3.drew = w4 at *
      go_wp2_with fail
      go_roundw
      case rel =>
        have hk5 : Kp (One gt) w4 (w4.setCell ⟨gt, o, none⟩ (.int .i64 (tv + (h + P.k)))) := kp_setOne _ _ _ _
        refine ⟨k + 1, by omega, by go_num, hk5.owns OY4.out fun g hg e => ?_, HTV.out ▸ own_set OT4.out o (i64V (tv + (h + P.k))), hk5.owns OX4.out fun g hg e => ?_, HBN.out, HK4.out.trans hk5 fun g hg e => ?_⟩
        · have e : g = gt := e; cases hg; exact HGT.out.1 e.symm
        · have e : g = gt := e; cases hg; exact HGT.out.2 e.symm
        · have e : g = gt := e
          have := (own_ge OT4.out (g := gt) rfl).1
          omega
      case measure => simp [intOf]; omega
    · obtain rfl : k = m := by omega
      have HFY := Lib.hid (show (O.zip H).take k = O.zip H from List.take_of_length_le (by rw [List.length_zip, HLEN.out.2.1, HLEN.out.2.2.1]; omega))
      obtain ⟨Y, hY⟩ : ∃ Y, Y = yF P.k (O.zip H) (List.replicate u 0) := ⟨_, rfl⟩
      have HYL := Lib.hid (show Y.length = k by rw [hY, yF_len, List.length_zip, HLEN.out.2.1, HLEN.out.2.2.1]; omega)
      have OYF := Lib.hid (show wr.ownsRow w.heap.size 2 1 (.slice (some ⟨gy, 0, none⟩) k k) k (Y.map i64V) by have := OY.out; rw [HFY.out, ← hY, Nat.sub_self] at this; simpa using this)
      have HSP := Lib.hid (show spotsF P.k l S O H u = spF P.k O Y (S.zip l) (List.replicate k 0) by unfold spotsF; rw [← hY, HLEN.out.2.2.1])
      have b4' := HK.out.cell b4 id
      have hnb : nb < wr.heap.size := World.block_lt_of_cell? _ _ b4'
      clear hY OY OT HBD HFY
      go_wp2_with fail
      have hke : Kp No wr (wr.alloc (.cells #[] 52)) := Kp.alloc _ _ _
      have OE := Lib.hid (own_empty (w := wr) (e := 52) (size := 4) (base := w.heap.size) HK.out.size)
      obtain ⟨ge, hge⟩ : ∃ ge, ge = wr.heap.size := ⟨_, rfl⟩
      rw [← hge] at OE ⊢
      have OYE := Lib.hid (hke.owns OYF.out fun _ _ h => h)
      have OXE := Lib.hid (hke.owns OX.out fun _ _ h => h)
      have HKE := Lib.hid (HK.out.tr hke)
      clear hke OYF OX HK b4' hnb hge
      generalize wr.alloc (.cells #[] 52) = we at *
      go_loopw [8, 73] (fun v8 i wr => ∃ (j g cp : Nat), j ≤ n ∧ i = .int .i64 j ∧ v8 = .slice (some ⟨g, 0, none⟩) j cp ∧ wr.ownsRow w.heap.size 52 4 (.slice (some ⟨g, 0, none⟩) j cp) j ((spF P.k O Y ((S.zip l).take j) (List.replicate k 0)).flatMap Spo.cells)
        ∧ wr.ownsRow w.heap.size 2 1 (.slice (some ⟨gy, 0, none⟩) k k) k (Y.map i64V)
        ∧ wr.ownsRow w.heap.size 2 1 (.slice (some ⟨gx, 0, none⟩) k k) k ((widF P.k ((S.zip l).take j) (List.replicate k 0)).map i64V) ∧ bdL (j * 20050000) (widF P.k ((S.zip l).take j) (List.replicate k 0)) ∧ Kp No w wr) (fun _ i _ => n - (intOf i).toNat)
      case atStart =>
        refine ⟨0, ge, 0, by omega, rfl, rfl, ?_, OYE.out, ?_, ?_, HKE.out⟩
        · simpa [spF] using OE.out
        · simpa [widF] using OXE.out
        · simpa [widF] using bdL_zero k
      case round =>
        clear OE OYE OXE HKE
        obtain ⟨j, g, cp, hj, rfl, rfl, hos, hoy, hox, hbd, hkp⟩ := hrel
        have OS := Lib.hid hos
        have OY := Lib.hid hoy
        have OX := Lib.hid hox
        have HBD := Lib.hid hbd
        have HK := Lib.hid hkp
        clear hos hoy hox hbd hkp
        by_cases hlt : j < n
        · obtain ⟨s, hsj⟩ : ∃ s, S[j]? = some s := ⟨_, List.getElem?_eq_getElem (by rw [HLEN.out.1]; exact hlt)⟩
          obtain ⟨c, hcj⟩ : ∃ c, l[j]? = some c := ⟨_, List.getElem?_eq_getElem (by rw [HLEN.out.2.2.2]; exact hlt)⟩
          have hsk := HSS.out s (List.mem_of_getElem? hsj)
          obtain ⟨o, hos⟩ : ∃ o, O[s]? = some o := ⟨_, List.getElem?_eq_getElem (by rw [HLEN.out.2.1]; exact hsk)⟩
          obtain ⟨bs, os, rfl, hbs, cs⟩ := HS.out.2 j (s : Int) (map_at' Int.ofNat hsj)
          obtain ⟨bo, oo, rfl, hbo, co⟩ := HO.out.2 s (o : Int) (map_at' Int.ofNat hos)
          obtain ⟨bl, ol, rfl, hbl, hcl⟩ := HL.out.2 j c hcj
          have cl := hcl 0 _ rfl
          simp only [Nat.add_zero] at cl
          have hcb := HBC.out c (List.mem_of_getElem? hcj)
          have hXl : (widF P.k ((S.zip l).take j) (List.replicate k 0)).length = k := by rw [widF_len, List.length_replicate]
          obtain ⟨xv, hxv⟩ : ∃ xv, xv = (widF P.k ((S.zip l).take j) (List.replicate k 0)).getD s 0 := ⟨_, rfl⟩
          obtain ⟨yv, hyv⟩ : ∃ yv, yv = Y.getD s 0 := ⟨_, rfl⟩
          have hxb := bdL_at HBD.out (by omega) s
          rw [← hxv] at hxb
          have HCX := Lib.hid (show ((widF P.k ((S.zip l).take j) (List.replicate k 0)).map i64V)[s]? = some (.int .i64 xv) from map_at' i64V (by rw [hxv]; exact getD_at' (by rw [hXl]; exact hsk)))
          have cX := own_cell OX.out HCX.out
          have cY : wr.cell? ⟨gy, s, none⟩ = some (.int .i64 yv) := own_cell OY.out (map_at' i64V (by rw [hyv]; exact getD_at' (by rw [HYL.out]; exact hsk)))
          have cs' := HK.out.cell cs id
          have co' := HK.out.cell co id
          have b5' := HK.out.cell b5 id
          have HZ := Lib.hid (zip_at hsj hcj)
          have HSV := Lib.hid (show spF P.k O Y ((S.zip l).take (j + 1)) (List.replicate k 0) = spF P.k O Y ((S.zip l).take j) (List.replicate k 0) ++ [⟨(o : Int), (s : Int), xv, yv⟩] by
            rw [HZ.out, spF_snoc, ← hxv, ← hyv, getD_of hos])
          have HXV := Lib.hid (show ((widF P.k ((S.zip l).take j) (List.replicate k 0)).map i64V).set s (i64V (xv + (c.w + P.k))) = (widF P.k ((S.zip l).take (j + 1)) (List.replicate k 0)).map i64V by
            rw [HZ.out, widF_snoc, ← hxv, ← List.map_set])
          have HBN := Lib.hid (show bdL ((j + 1 : Nat) * 20050000) (widF P.k ((S.zip l).take (j + 1)) (List.replicate k 0)) by
            rw [HZ.out, widF_snoc, ← hxv]
            have := HKK.out
            exact bdL_set HBD.out (by omega) s (by omega))
          clear hxv hyv hXl hsj hcj hos hcl
          go_wp2_with fail
          have HNE := Lib.hid (show ¬ Kq.One g nb ∧ ¬ Kq.One g bo ∧ ¬ Kq.One g gx ∧ ¬ Kq.One g gy by
            have := own_ge OS.out (g := g) rfl
            have hnbl := World.block_lt_of_cell? _ _ b5
            refine ⟨fun e => ?_, fun e => ?_, fun e => ?_, fun e => ?_⟩
            · have e : nb = g := e; have : nb < w.heap.size := hnbl; omega
            · have e : bo = g := e; omega
            · have e : gx = g := e; subst e; exact own_apart OX.out OS.out (by decide) rfl rfl
            · have e : gy = g := e; subst e; exact own_apart OY.out OS.out (by decide) rfl rfl)
          have up : ∀ (r : Nat → Option Value) (w' : World) (i : Nat) (v : Value), i ≠ 18 → i ≠ 19 → i ≠ 20 → (Kp (Kq.One g) wr w' ∧ (r 19 = none → Kp No wr w' ∧ ∀ u, r 18 = some u → ∃ gq, u = .slice (some ⟨gq, 0, none⟩) 1 1 ∧ ∀ (jj : Nat) xx, (Spo.cells ⟨(o : Nat), (s : Nat), xv, yv⟩)[jj]? = some xx → w'.cell? ⟨gq, jj, none⟩ = some xx) ∧ (∀ u, r 19 = some u → r 0 ≠ none ∧ r 18 ≠ none ∧ ∃ wx, Kp No wr wx ∧ w'.ownsRow w.heap.size 52 4 u (j + 1) (((spF P.k O Y ((S.zip l).take j) (List.replicate k 0)).flatMap Spo.cells) ++ (Spo.cells ⟨(o : Nat), (s : Nat), xv, yv⟩)) ∧ wx.grownBy w' (some g)) ∧ (∀ u, r 20 = some u → r 19 = some u)) → (Kp (Kq.One g) wr w' ∧ ((Kq.upd r i v) 19 = none → Kp No wr w' ∧ ∀ u, (Kq.upd r i v) 18 = some u → ∃ gq, u = .slice (some ⟨gq, 0, none⟩) 1 1 ∧ ∀ (jj : Nat) xx, (Spo.cells ⟨(o : Nat), (s : Nat), xv, yv⟩)[jj]? = some xx → w'.cell? ⟨gq, jj, none⟩ = some xx) ∧ (∀ u, (Kq.upd r i v) 19 = some u → (Kq.upd r i v) 0 ≠ none ∧ (Kq.upd r i v) 18 ≠ none ∧ ∃ wx, Kp No wr wx ∧ w'.ownsRow w.heap.size 52 4 u (j + 1) (((spF P.k O Y ((S.zip l).take j) (List.replicate k 0)).flatMap Spo.cells) ++ (Spo.cells ⟨(o : Nat), (s : Nat), xv, yv⟩)) ∧ wx.grownBy w' (some g)) ∧ (∀ u, (Kq.upd r i v) 20 = some u → (Kq.upd r i v) 19 = some u)) := fun r w' i v h1 h2 h3 h => by
            rw [upd_ne _ _ h1.symm, upd_ne _ _ h2.symm, upd_ne _ _ h3.symm]
            exact ⟨h.1, h.2.1, fun u hu => ⟨upd_some (h.2.2.1 u hu).1, (h.2.2.1 u hu).2⟩, h.2.2.2⟩
          have UP := Lib.hid up
          clear up
          refine wp_region_each (fun ix uR => match ix with | 0 => uR = .slice (some ⟨g, 0, none⟩) j cp | 1 => uR = .pointer (some ⟨nb, 0, none⟩) | 2 => uR = .pointer (some ⟨nb, 0, none⟩) | 3 => uR = .pointer (some ⟨nb, 5, none⟩) | 4 => uR = .slice (some ⟨bo, oo, none⟩) k cO | 5 => uR = .int .i64 (s : Nat) | 6 => uR = .pointer (some ⟨bo, oo + s, none⟩) | 7 => uR = .int .i64 (o : Nat) | 8 => uR = .int .i64 (s : Nat) | 9 => uR = .slice (some ⟨gx, 0, none⟩) k k | 10 => uR = .int .i64 (s : Nat) | 11 => uR = .pointer (some ⟨gx, s, none⟩) | 12 => uR = .int .i64 xv | 13 => uR = .slice (some ⟨gy, 0, none⟩) k k | 14 => uR = .int .i64 (s : Nat) | 15 => uR = .pointer (some ⟨gy, s, none⟩) | 16 => uR = .int .i64 yv | 17 => uR = .agg #[.int .i64 (o : Nat), .int .i64 (s : Nat), .int .i64 xv, .int .i64 yv] | _ => True) (fun r w' => (Kp (Kq.One g) wr w' ∧ (r 19 = none → Kp No wr w' ∧ ∀ u, r 18 = some u → ∃ gq, u = .slice (some ⟨gq, 0, none⟩) 1 1 ∧ ∀ (jj : Nat) xx, (Spo.cells ⟨(o : Nat), (s : Nat), xv, yv⟩)[jj]? = some xx → w'.cell? ⟨gq, jj, none⟩ = some xx) ∧ (∀ u, r 19 = some u → r 0 ≠ none ∧ r 18 ≠ none ∧ ∃ wx, Kp No wr wx ∧ w'.ownsRow w.heap.size 52 4 u (j + 1) (((spF P.k O Y ((S.zip l).take j) (List.replicate k 0)).flatMap Spo.cells) ++ (Spo.cells ⟨(o : Nat), (s : Nat), xv, yv⟩)) ∧ wx.grownBy w' (some g)) ∧ (∀ u, r 20 = some u → r 19 = some u))) (by kernel_rfl) (by kernel_rfl) (by kernel_rfl) ?_ ?_ ?_
          · exact ⟨Kp.drew _ _, fun _ => ⟨Kp.drew _ _, fun u h => (by cases h)⟩, fun u h => (by cases h), fun u h => (by cases h)⟩
          · refine ⟨?_, ?_, ?_, ?_, ?_, ?_, ?_, ?_, ?_, ?_, ?_, ?_, ?_, ?_, ?_, ?_, ?_, ?_, ?_, ?_, ?_, trivial⟩
            · intro r a w' hf hg hW hr hd K hK
              refine wpOp_of rfl rfl ?_
              have e0 : a.tmps.getD 8 undef = .slice (some ⟨g, 0, none⟩) j cp := hf.evalYet (i := 20) (by cases hs : r 20 with | none => rfl | some v => exact absurd hr (hW.2.2.1 v (hW.2.2.2 v hs)).1) (by kernel_rfl)
              go_simp
              exact hK _ _ rfl (UP.out r w' 0 _ (by decide) (by decide) (by decide) hW)
            · intro r a w' hf hg hW hr hd K hK
              refine wpOp_of rfl rfl ?_
              have e0 : a.tmps.getD 0 undef = .pointer (some ⟨nb, 0, none⟩) := hf.evalFree (by kernel_rfl)
              go_simp
              exact hK _ _ rfl (UP.out r w' 1 _ (by decide) (by decide) (by decide) hW)
            · intro r a w' hf hg hW hr hd K hK
              refine wpOp_of rfl rfl ?_
              refine hf.depE hg hd 1 79 (by kernel_rfl) fun u0 e0 g0 h0 => ?_
              replace g0 : u0 = .pointer (some ⟨nb, 0, none⟩) := g0
              subst g0
              go_simp
              exact hK _ _ rfl (UP.out r w' 2 _ (by decide) (by decide) (by decide) hW)
            · intro r a w' hf hg hW hr hd K hK
              refine wpOp_of rfl rfl ?_
              refine hf.depE hg hd 2 80 (by kernel_rfl) fun u0 e0 g0 h0 => ?_
              replace g0 : u0 = .pointer (some ⟨nb, 0, none⟩) := g0
              subst g0
              go_simp
              exact hK _ _ rfl (UP.out r w' 3 _ (by decide) (by decide) (by decide) hW)
            · intro r a w' hf hg hW hr hd K hK
              refine wpOp_of rfl rfl ?_
              refine hf.depE hg hd 3 81 (by kernel_rfl) fun u0 e0 g0 h0 => ?_
              replace g0 : u0 = .pointer (some ⟨nb, 5, none⟩) := g0
              subst g0
              have z0 := hW.1.cell b5' HNE.out.1
              go_simp
              exact hK _ _ rfl (UP.out r w' 4 _ (by decide) (by decide) (by decide) hW)
            · intro r a w' hf hg hW hr hd K hK
              refine wpOp_of rfl rfl ?_
              have e0 : a.tmps.getD 10 undef = .int .i64 (s : Nat) := hf.evalFree (by kernel_rfl)
              go_simp
              exact hK _ _ rfl (UP.out r w' 5 _ (by decide) (by decide) (by decide) hW)
            · intro r a w' hf hg hW hr hd K hK
              refine wpOp_of rfl rfl ?_
              refine hf.depE hg hd 4 82 (by kernel_rfl) fun u0 e0 g0 h0 => ?_
              replace g0 : u0 = .slice (some ⟨bo, oo, none⟩) k cO := g0
              subst g0
              refine hf.depE hg hd 5 83 (by kernel_rfl) fun u1 e1 g1 h1 => ?_
              replace g1 : u1 = .int .i64 (s : Nat) := g1
              subst g1
              go_simp
              exact hK _ _ rfl (UP.out r w' 6 _ (by decide) (by decide) (by decide) hW)
            · intro r a w' hf hg hW hr hd K hK
              refine wpOp_of rfl rfl ?_
              refine hf.depE hg hd 6 84 (by kernel_rfl) fun u0 e0 g0 h0 => ?_
              replace g0 : u0 = .pointer (some ⟨bo, oo + s, none⟩) := g0
              subst g0
              have z0 := hW.1.cell co' HNE.out.2.1
              go_simp
              exact hK _ _ rfl (UP.out r w' 7 _ (by decide) (by decide) (by decide) hW)
            · intro r a w' hf hg hW hr hd K hK
              refine wpOp_of rfl rfl ?_
              have e0 : a.tmps.getD 10 undef = .int .i64 (s : Nat) := hf.evalFree (by kernel_rfl)
              go_simp
              exact hK _ _ rfl (UP.out r w' 8 _ (by decide) (by decide) (by decide) hW)
            · intro r a w' hf hg hW hr hd K hK
              refine wpOp_of rfl rfl ?_
              have e0 : a.tmps.getD 4 undef = .slice (some ⟨gx, 0, none⟩) k k := hf.evalFree (by kernel_rfl)
              go_simp
              exact hK _ _ rfl (UP.out r w' 9 _ (by decide) (by decide) (by decide) hW)
            · intro r a w' hf hg hW hr hd K hK
              refine wpOp_of rfl rfl ?_
              have e0 : a.tmps.getD 10 undef = .int .i64 (s : Nat) := hf.evalFree (by kernel_rfl)
              go_simp
              exact hK _ _ rfl (UP.out r w' 10 _ (by decide) (by decide) (by decide) hW)
            · intro r a w' hf hg hW hr hd K hK
              refine wpOp_of rfl rfl ?_
              refine hf.depE hg hd 9 87 (by kernel_rfl) fun u0 e0 g0 h0 => ?_
              replace g0 : u0 = .slice (some ⟨gx, 0, none⟩) k k := g0
              subst g0
              refine hf.depE hg hd 10 88 (by kernel_rfl) fun u1 e1 g1 h1 => ?_
              replace g1 : u1 = .int .i64 (s : Nat) := g1
              subst g1
              go_simp
              exact hK _ _ rfl (UP.out r w' 11 _ (by decide) (by decide) (by decide) hW)
            · intro r a w' hf hg hW hr hd K hK
              refine wpOp_of rfl rfl ?_
              refine hf.depE hg hd 11 89 (by kernel_rfl) fun u0 e0 g0 h0 => ?_
              replace g0 : u0 = .pointer (some ⟨gx, s, none⟩) := g0
              subst g0
              have z0 := hW.1.cell cX HNE.out.2.2.1
              go_simp
              exact hK _ _ rfl (UP.out r w' 12 _ (by decide) (by decide) (by decide) hW)
            · intro r a w' hf hg hW hr hd K hK
              refine wpOp_of rfl rfl ?_
              have e0 : a.tmps.getD 3 undef = .slice (some ⟨gy, 0, none⟩) k k := hf.evalFree (by kernel_rfl)
              go_simp
              exact hK _ _ rfl (UP.out r w' 13 _ (by decide) (by decide) (by decide) hW)
            · intro r a w' hf hg hW hr hd K hK
              refine wpOp_of rfl rfl ?_
              have e0 : a.tmps.getD 10 undef = .int .i64 (s : Nat) := hf.evalFree (by kernel_rfl)
              go_simp
              exact hK _ _ rfl (UP.out r w' 14 _ (by decide) (by decide) (by decide) hW)
            · intro r a w' hf hg hW hr hd K hK
              refine wpOp_of rfl rfl ?_
              refine hf.depE hg hd 13 91 (by kernel_rfl) fun u0 e0 g0 h0 => ?_
              replace g0 : u0 = .slice (some ⟨gy, 0, none⟩) k k := g0
              subst g0
              refine hf.depE hg hd 14 92 (by kernel_rfl) fun u1 e1 g1 h1 => ?_
              replace g1 : u1 = .int .i64 (s : Nat) := g1
              subst g1
              go_simp
              exact hK _ _ rfl (UP.out r w' 15 _ (by decide) (by decide) (by decide) hW)
            · intro r a w' hf hg hW hr hd K hK
              refine wpOp_of rfl rfl ?_
              refine hf.depE hg hd 15 93 (by kernel_rfl) fun u0 e0 g0 h0 => ?_
              replace g0 : u0 = .pointer (some ⟨gy, s, none⟩) := g0
              subst g0
              have z0 := hW.1.cell cY HNE.out.2.2.2
              go_simp
              exact hK _ _ rfl (UP.out r w' 16 _ (by decide) (by decide) (by decide) hW)
            · intro r a w' hf hg hW hr hd K hK
              refine wpOp_of rfl rfl ?_
              refine hf.depE hg hd 7 85 (by kernel_rfl) fun u0 e0 g0 h0 => ?_
              replace g0 : u0 = .int .i64 (o : Nat) := g0
              subst g0
              have e0' := get_of_getD e0
              refine hf.depE hg hd 8 86 (by kernel_rfl) fun u1 e1 g1 h1 => ?_
              replace g1 : u1 = .int .i64 (s : Nat) := g1
              subst g1
              have e1' := get_of_getD e1
              refine hf.depE hg hd 12 90 (by kernel_rfl) fun u2 e2 g2 h2 => ?_
              replace g2 : u2 = .int .i64 xv := g2
              subst g2
              have e2' := get_of_getD e2
              refine hf.depE hg hd 16 94 (by kernel_rfl) fun u3 e3 g3 h3 => ?_
              replace g3 : u3 = .int .i64 yv := g3
              subst g3
              have e3' := get_of_getD e3
              go_simp
              exact hK _ _ rfl (UP.out r w' 17 _ (by decide) (by decide) (by decide) hW)
            · intro r a w' hf hg hW hr hd K hK
              refine wpOp_of rfl rfl ?_
              refine hf.depE hg hd 17 95 (by kernel_rfl) fun u0 e0 g0 h0 => ?_
              replace g0 : u0 = .agg #[.int .i64 (o : Nat), .int .i64 (s : Nat), .int .i64 xv, .int .i64 yv] := g0
              subst g0
              have e0' := get_of_getD e0
              have H19 : r 19 = none := by
                cases hs : r 19 with
                | none => rfl
                | some v => exact absurd hr (hW.2.2.1 v hs).2.1
              go_simp
              refine hK _ _ trivial ⟨hW.1.tr (Kp.alloc _ _ _), fun _ => ⟨(hW.2.1 H19).1.tr (Kp.alloc _ _ _), fun u hu => ?_⟩, fun u hu => ?_, fun u hu => ?_⟩
              · rw [upd_same] at hu
                cases hu
                exact ⟨w'.heap.size, rfl, fun jj xx hj => by have := new_cells (e := 52) w' (Spo.cells ⟨(o : Nat), (s : Nat), xv, yv⟩) (by simp [Spo.cells, maxLen]) jj xx hj; rwa [add_at, Nat.zero_add] at this⟩
              · rw [upd_ne _ _ (by decide), H19] at hu
                cases hu
              · rw [upd_ne _ _ (by decide)] at hu
                have := hW.2.2.2 u hu
                rw [H19] at this
                cases this
            · intro r a w' hf hg hW hr hd K hK
              refine wpOp_of rfl rfl ?_
              refine hf.depE hg hd 0 78 (by kernel_rfl) fun u0 e0 g0 h0 => ?_
              replace g0 : u0 = .slice (some ⟨g, 0, none⟩) j cp := g0
              subst g0
              refine hf.depE hg hd 18 96 (by kernel_rfl) fun u1 e1 g1 h1 => ?_
              obtain ⟨gq, hq, hcc⟩ := (hW.2.1 hr).2 u1 h1
              subst hq
              refine wpo_append (.tmp 78) (.tmp 96) 26 rfl w.heap.size 52 i0 (.agg #[.int .i64 0, .int .i64 0, .int .i64 0, .int .i64 0]) 4 32 Try.underlying26 hi0 hz0 hz1 hz2 rfl (by decide) (.slice (some ⟨g, 0, none⟩) j cp) j ((spF P.k O Y ((S.zip l).take j) (List.replicate k 0)).flatMap Spo.cells) e0 ((hW.2.1 hr).1.owns OS.out fun _ _ h => h) ⟨gq, 0, none⟩ 1 1 (Spo.cells ⟨(o : Nat), (s : Nat), xv, yv⟩) e1 rfl (fun jj xx hj => by rw [add_at, Nat.zero_add]; exact hcc jj xx hj) (spo_one _) (by unfold maxLen; omega) (by omega) (by have := HK.out.size; have := hW.1.size; omega) (fun v' w'' ho hgr _ => ?_)
              refine hK _ _ trivial ⟨hW.1.tr (Kp.grown hgr fun k hk _ => (Option.some.inj hk).symm), fun h => ?_, fun u hu => ?_, fun u hu => ?_⟩
              · rw [upd_same] at h
                cases h
              · rw [upd_same] at hu
                cases hu
                exact ⟨by rw [upd_ne _ _ (by decide), h0]; simp, by rw [upd_ne _ _ (by decide), h1]; simp, w', (hW.2.1 hr).1, ho, hgr⟩
              · rw [upd_ne _ _ (by decide)] at hu
                have := hW.2.2.2 u hu
                rw [hr] at this
                cases this
            · intro r a w' hf hg hW hr hd K hK
              refine wpOp_of rfl rfl ?_
              refine hf.depE hg hd 19 97 (by kernel_rfl) fun u0 e0 g0 h0 => ?_
              go_simp
              refine hK _ _ trivial ⟨hW.1, fun h => ?_, fun u hu => ?_, fun u hu => ?_⟩
              · rw [upd_ne _ _ (by decide)] at h
                rw [h0] at h
                cases h
              · rw [upd_ne _ _ (by decide)] at hu
                obtain ⟨k1, k2, k3⟩ := hW.2.2.1 u hu
                exact ⟨upd_some k1, upd_some k2, k3⟩
              · rw [upd_same] at hu
                rw [upd_ne _ _ (by decide), h0, hu]
          intro r' w7 hg hW hr'
          obtain ⟨q19, hq19⟩ : ∃ u, r' 19 = some u := Option.ne_none_iff_exists'.1 (hr' 19 (by decide))
          obtain ⟨q20, hq20⟩ : ∃ u, r' 20 = some u := Option.ne_none_iff_exists'.1 (hr' 20 (by decide))
          simp only [List.length_cons, List.length_nil, Nat.reduceAdd, List.range_succ, List.range_zero, List.nil_append, List.cons_append, List.map_cons, List.map_nil, putAll, Act.put, List.setIfInBounds_toArray, List.set_cons_succ, List.set_cons_zero, hq19, hq20, Option.getD_some]
          obtain ⟨_, _, wx, hkx, hown', hgrow⟩ := hW.2.2.1 q19 hq19
          have hqq := hW.2.2.2 q20 hq20
          rw [hq19] at hqq
          cases hqq
          have hkg : Kp (fun k => Value.ownBlock (.slice (some ⟨g, 0, none⟩) j cp) = some k) wr w7 := (hkx.of_no).tr (Kp.grown hgrow fun k hk _ => hk.symm ▸ rfl)
          have hk7 : Kp No w w7 := HK.out.trans hkg fun k hk e => by have := (own_ge OS.out e).1; omega
          have OY7 := Lib.hid (hkg.owns OY.out fun g' hg' e => own_apart OY.out OS.out (by decide) hg' e)
          have OX7 := Lib.hid (hkg.owns OX.out fun g' hg' e => own_apart OX.out OS.out (by decide) hg' e)
          clear hg hW hr' hq19 hq20 hkx hgrow hkg
          rw [← flat_snoc, ← HSV.out] at hown'
          obtain ⟨g1, c7, rfl, hc7, _, hg7⟩ := own_form hown'
          obtain ⟨g', rfl⟩ := hg7 (by omega)
          have OS7 := Lib.hid hown'
          have HK7 := Lib.hid hk7
          clear hown' hg7 hk7 OS OY OX HK HSV HNE cX cY cs' co' b5' HBD
          have cX := own_cell OX7.out HCX.out
          have fX := own_free OX7.out s
          have b3' := HK7.out.cell b3 id
          have b2' := HK7.out.cell b2 id
          have cl' := HK7.out.cell cl id
          go_wp2_with fail
          refine wp_region_still_tail 22 (by kernel_rfl) (by kernel_rfl) ?_
          simp only [List.take_succ_cons, List.take_zero, List.drop_succ_cons, List.drop_zero]
          repeat still_step
          refine wpStill_nil ?_
          change wpList _ _ _ _ _ w7.drew
          have hk8 : Kp No w7 w7.drew := Kp.drew _ _
          have OS8 := Lib.hid (hk8.owns OS7.out fun _ _ e => e)
          have OY8 := Lib.hid (hk8.owns OY7.out fun _ _ e => e)
          have OX8 := Lib.hid (hk8.owns OX7.out fun _ _ e => e)
          have HK8 := Lib.hid (HK7.out.tr hk8)
          have cX8 := hk8.cell cX id
          have fX8 := own_free OX8.out s
          clear hk8 cX fX b3' b2' cl' OS7 OY7 OX7 HK7
          generalize w7.drew = w8 at *
          go_wp2_with fail
          go_roundw
          case rel =>
            have hk5 : Kp (One gx) w8 (w8.setCell ⟨gx, s, none⟩ (.int .i64 (xv + (c.w + P.k)))) := kp_setOne _ _ _ _
            refine ⟨j + 1, g', c7, by omega, by go_num, rfl, hk5.owns OS8.out fun g hg e => ?_, hk5.owns OY8.out fun g hg e => ?_, HXV.out ▸ own_set OX8.out s (i64V (xv + (c.w + P.k))), HBN.out, HK8.out.trans hk5 fun g hg e => ?_⟩
            · have e : g = gx := e; subst e; exact own_apart OX8.out OS8.out (by decide) rfl hg
            · have e : g = gx := e; cases hg; exact HM3.out.2.2.1 e
            · have e : g = gx := e
              have := (own_ge OX8.out (g := gx) rfl).1
              omega
          case measure => simp [intOf]; omega
        · obtain rfl : j = n := by omega
          have HFS := Lib.hid (show (S.zip l).take j = S.zip l from List.take_of_length_le (by rw [List.length_zip, HLEN.out.1, HLEN.out.2.2.2]; omega))
          rw [HFS.out] at OS
          go_wp2_with fail
          go_ret
          exact ⟨_, _, rfl, by rw [HSP.out]; exact OS.out, HK.out⟩
end Go.Proofs.Ytamjhpdgclbfgaa
