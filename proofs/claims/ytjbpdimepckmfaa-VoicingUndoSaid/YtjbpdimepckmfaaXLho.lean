/- Chapter 27: the statements' holds: the walk. Printed by gen_lho.py. -/
import Derived.Test.YtjbpdimepckmfaaXSml
import Derived.Test.YtjbpdimepckmfaaXStW
namespace Go.Proofs.Ytjbpdimepckmfaa
open Go.RowKit Go.Kq

/-- The works on pipes that a list of bools lets count. -/
def cwsB (l : List Wk) (cs : List Bool) (i : Nat) : List Wk := (List.range i).filterMap fun j => match l[j]? with | some v => if cs.getD j false && v.kd != 4 then some v else none | none => none
theorem cwsB_succ {l : List Wk} {cs : List Bool} {i : Nat} {v : Wk} {c : Bool} (hv : l[i]? = some v) (hc : cs[i]? = some c) : cwsB l cs (i + 1) = cwsB l cs i ++ if c && v.kd != 4 then [v] else [] := by
  unfold cwsB
  rw [List.range_succ, List.filterMap_append]
  congr 1
  simp only [List.filterMap_cons, List.filterMap_nil, hv, List.getD_eq_getElem?_getD, hc, Option.getD_some]
  cases c && v.kd != 4 <;> rfl
def xAt (l : List Wk) (cs : List Bool) (p : Pp) (i : Nat) : Pv := (stOf (cwsB l cs i) p).getD (pv0 p)
def doneAt (l : List Wk) (cs : List Bool) (p : Pp) (i : Nat) : Bool := (stOf (cwsB l cs i) p).isSome
theorem xAt_p (l : List Wk) (cs : List Bool) (p : Pp) (i : Nat) : (xAt l cs p i).p = p := by
  unfold xAt
  cases h : stOf (cwsB l cs i) p with
  | none => rfl
  | some u => exact stOf_p h
theorem at_skip {l : List Wk} {cs : List Bool} {p : Pp} {i : Nat} {v : Wk} {c : Bool} (hv : l[i]? = some v) (hc : cs[i]? = some c) (h : (c && v.kd != 4) = false ∨ v.pp ≠ p) : xAt l cs p (i + 1) = xAt l cs p i ∧ doneAt l cs p (i + 1) = doneAt l cs p i := by
  have e : stOf (cwsB l cs (i + 1)) p = stOf (cwsB l cs i) p := by
    rw [cwsB_succ hv hc]
    rcases h with h | h
    · rw [h]
      simp
    · split
      · rw [stOf_snoc, if_neg h]
      · simp
  unfold xAt doneAt
  rw [e]
  exact ⟨rfl, rfl⟩
theorem at_step {l : List Wk} {cs : List Bool} {p : Pp} {i : Nat} {v : Wk} (hv : l[i]? = some v) (hc : cs[i]? = some true) (h4 : (v.kd != 4) = true) (hp : v.pp = p) : xAt l cs p (i + 1) = stepP (xAt l cs p i) v ∧ doneAt l cs p (i + 1) = true := by
  have e : stOf (cwsB l cs (i + 1)) p = some (stepP (xAt l cs p i) v) := by
    rw [cwsB_succ hv hc, h4]
    simp only [Bool.and_self, if_true]
    rw [stOf_snoc, if_pos hp]
    rfl
  unfold xAt doneAt at *
  rw [e]
  exact ⟨rfl, rfl⟩
theorem setQ {W : World} {g k : Nat} {v : Pv} (h : BoxP W g v) (hk : k < 8) (x : Int) : Kp (Kq.One g) W (W.setCell ⟨g, 2 + k, none⟩ (.int .i64 x)) ∧ BoxP (W.setCell ⟨g, 2 + k, none⟩ (.int .i64 x)) g (v.set k x) := by
  refine ⟨kp_setOne _ _ _ _, ?_⟩
  unfold BoxP at *
  rw [← Pv.cells_set v hk]
  simp [World.setCell, Array.getElem?_modify, h]
def anyP (s : List Pv) (p : Pp) : Bool := s.any fun v => v.p.1 == p.1 && v.p.2 == p.2
theorem anyP_snoc (s : List Pv) (v : Pv) (p : Pp) : anyP (s ++ [v]) p = (anyP s p || (v.p.1 == p.1 && v.p.2 == p.2)) := by simp [anyP]
theorem anyP_mem {s : List Pv} {v : Pv} {p : Pp} (h : v ∈ s) (e : v.p = p) : anyP s p = true := by
  unfold anyP
  exact List.any_eq_true.2 ⟨v, h, by rw [e]; simp⟩
set_option maxHeartbeats 4000000 in
set_option maxRecDepth 100000 in
theorem holds_any (A B C : Option Addr) (n m ca cb cc : Nat) (s : List Pv) (l : List Wk) (cs : List Bool) (w : World) (hx : RdP w A n s) (hy : RdW w B m l) (hz : RdB w C m cs) (hn : n ≤ 1000) (hm : m ≤ 1000) (hok : ∀ v ∈ l, okW v = true)
    (hS : ∀ v ∈ s, stOf (cwsB l cs m) v.p = some v) (hF : ∀ (k : Nat) (u : Wk), l[k]? = some u → cs[k]? = some true → u.kd ≠ 4 → ∃ v ∈ s, v.p = u.pp) :
    Calls Try.prog 18 #[.slice A n ca, .slice B m cb, .slice C m cc] w fun e w' => e = .returned (.bool true) ∧ Kp No w w' := by
  have hxl := hx.1
  have hyl := hy.1
  have hzl := hz.1
  have HX := Lib.hid (And.intro hx (And.intro hy hz))
  have HS := Lib.hid hS
  have HF := Lib.hid hF
  have HOK := Lib.hid hok
  have HXL := Lib.hid (And.intro hxl (And.intro hyl hzl))
  clear hx hy hz hS hF hok hxl hyl hzl
  go_enter Try.func18, Try.ntmps18
  go_wp2_with fail
  go_loopw [7] (fun vi wr => ∃ i : Nat, i ≤ n ∧ vi = .int .i64 i ∧ Kp No w wr) (fun vi _ => n - (intOf vi).toNat)
  case atStart => exact ⟨0, by omega, rfl, Kp.refl _ _⟩
  case round =>
    obtain ⟨i, hi, rfl, hkp⟩ := hrel
    by_cases hlt : i < n
    · obtain ⟨v, hv⟩ : ∃ v, s[i]? = some v := ⟨_, List.getElem?_eq_getElem (by rw [HXL.out.1]; omega)⟩
      obtain ⟨b, o, rfl, _, hat⟩ := RdP.at_ (HX.out.1.no hkp) hv
      have HV := Lib.hid hv
      have HFV := Lib.hid (HS.out v (List.mem_of_getElem? hv))
      obtain ⟨c0, c1, _⟩ := hat
      obtain ⟨W1, hW1⟩ : ∃ W1, W1 = wr.alloc (.cells (pv0 v.p).cells.toArray 64) := ⟨_, rfl⟩
      have hb1 : BoxP W1 wr.heap.size (pv0 v.p) := by rw [hW1]; exact heap_alloc_new _ _
      have hk1 : Kp No w W1 := by rw [hW1]; exact hkp.tr (Kp.alloc _ _ _)
      obtain ⟨g, hg⟩ : ∃ g, g = wr.heap.size := ⟨_, rfl⟩
      have hgw : w.heap.size ≤ g := by rw [hg]; exact hkp.size
      obtain ⟨p, hp⟩ : ∃ p, p = v.p := ⟨_, rfl⟩
      have HW1 := Lib.hid hW1
      have HGG := Lib.hid hg
      have HPP := Lib.hid hp
      rw [← hg, ← hp] at hb1
      have HB1 := Lib.hid hb1
      clear hv hW1 hb1 hg hp
      go_wp2_with fail
      have hw1 : W1 = wr.alloc (.cells #[.int .i64 v.p.1, .int .i64 v.p.2, .int .i64 0, .int .i64 0, .int .i64 0, .int .i64 0, .int .i64 0, .int .i64 0, .int .i64 0, .int .i64 0, .int .i64 0, .string ⟨#[]⟩] 64) := HW1.out
      rw [← hw1, ← HGG.out]
      clear hw1 c0 c1
      go_loopw [9, 10] (fun vd vk wr => ∃ k : Nat, k ≤ m ∧ vk = .int .i64 k ∧ vd = .bool (doneAt l cs p k) ∧ BoxP wr g (xAt l cs p k) ∧ Kp No w wr) (fun _ vk _ => m - (intOf vk).toNat)
      case atStart => exact ⟨0, by omega, rfl, rfl, HB1.out, hk1⟩
      case round =>
        obtain ⟨k, hk, rfl, rfl, hbx, hkq⟩ := hrel
        have HBX := Lib.hid hbx
        have hgl := hbx.lt
        clear hbx
        by_cases hkm : k < m
        · obtain ⟨u, hu⟩ : ∃ u, l[k]? = some u := ⟨_, List.getElem?_eq_getElem (by rw [HXL.out.2.1]; omega)⟩
          obtain ⟨c, hc⟩ : ∃ c, cs[k]? = some c := ⟨_, List.getElem?_eq_getElem (by rw [HXL.out.2.2]; omega)⟩
          obtain ⟨bu, ou, rfl, _, hau⟩ := RdW.at_ (HX.out.2.1.no hkq) hu
          obtain ⟨bc, oc, rfl, _, c00⟩ := (HX.out.2.2.no hkq).2 k c hc
          obtain ⟨u0, u1, u2, u3, u4, u5, u6, u7, u8, u9, u10⟩ := hau
          have HSK := Lib.hid (fun h => at_skip (p := p) hu hc h)
          have HOU := Lib.hid (HOK.out u (List.mem_of_getElem? hu))
          have HU := Lib.hid hu
          have HC := Lib.hid hc
          clear hu hc
          cases c with
          | false =>
            have HS2 := Lib.hid (HSK.out (.inl rfl))
            go_wp2_with fail
            go_roundw
            case rel => exact ⟨k + 1, by omega, by go_num, by rw [HS2.out.2], by rw [HS2.out.1]; exact (Kp.alloc No wr _).heap HBX.out id, hkq.tr (Kp.alloc _ _ _)⟩
            case measure => simp [intOf]; omega
          | true =>
            by_cases h4 : u.kd = 4
            · have q4 : (u.kd == 4) = true := by rw [beq_iff_eq]; exact h4
              have HS2 := Lib.hid (HSK.out (.inl (by rw [h4]; rfl)))
              clear h4
              go_wp2_with fail
              go_roundw
              case rel => exact ⟨k + 1, by omega, by go_num, by rw [HS2.out.2], by rw [HS2.out.1]; exact (Kp.alloc No wr _).heap HBX.out id, hkq.tr (Kp.alloc _ _ _)⟩
              case measure => simp [intOf]; omega
            have q4 : (u.kd == 4) = false := by rw [beq_eq_false_iff_ne]; exact h4
            have hxp := xAt_p l cs p k
            have p0 : wr.cell? ⟨g, 0, none⟩ = some (.int .i64 p.1) := by have h := (HBX.out.at_ (j := 0) rfl).1; rwa [hxp] at h
            have p1 : wr.cell? ⟨g, 1, none⟩ = some (.int .i64 p.2) := by have h := (HBX.out.at_ (j := 1) rfl).1; rwa [hxp] at h
            have hpe := fun w' => pipe_equal w' u.rk u.nt p.1 p.2
            clear hxp
            by_cases hpp : u.pp = p
            · have q5 : (u.rk == p.1 && u.nt == p.2) = true := by
                rw [← hpp]
                simp [Wk.pp]
              rw [q5] at hpe
              have HST := Lib.hid (at_step HU.out HC.out (by simp [h4]) hpp)
              have HOC := Lib.hid (okW_cases HOU.out h4)
              clear hpp h4 q5
              obtain ⟨W2, hW2⟩ : ∃ W2, W2 = wr.alloc (.cells u.cells.toArray 41) := ⟨_, rfl⟩
              have hkA : Kp No wr W2 := by rw [hW2]; exact Kp.alloc _ _ _
              have HBA := Lib.hid (show BoxP W2 g (xAt l cs p k) from hkA.heap HBX.out id)
              have hkwA := hkq.tr hkA
              have hw2 : wr.alloc (.cells #[.int .i64 u.wk, .int .i64 u.num, .int .i64 u.ck, .int .i64 u.kd, .int .i64 u.rk, .int .i64 u.nt, .int .i64 u.fd, .int .i64 u.vl, .int .i64 u.ow, .int .i64 u.on, .string u.tx] 41) = W2 := hW2.symm
              have HW2 := Lib.hid hw2
              have hnew : W2.heap[wr.heap.size]? = some (.cells u.cells.toArray 41 (0, 0)) := by rw [hW2]; exact heap_alloc_new _ _
              have HNEW := Lib.hid hnew
              clear hnew hW2 hw2 hkA
              rcases HOC.out with ⟨hk12, f, hfd, hf8⟩ | h3
              · obtain ⟨q1, q2⟩ := HBA.out.at_ (Pv.cells_get (xAt l cs p k) hf8)
                obtain ⟨r1, r2⟩ := HBX.out.at_ (Pv.cells_get (xAt l cs p k) hf8)
                rw [hfd] at u6
                have hf8' : (f : Int) < 8 := by omega
                have hwf := HW2.out
                rw [hfd] at hwf
                have HWF := Lib.hid hwf
                by_cases h1 : u.kd = 1
                · have e1 : (u.kd == 1) = true := by rw [beq_iff_eq]; exact h1
                  have HSS := Lib.hid (stepP_set (xAt l cs p k) h1 hfd)
                  clear h1 hfd hk12 hwf
                  go_wp2_with fail
                  go_roundw
                  case rel =>
                    have hs := setQ HBX.out hf8 u.vl
                    exact ⟨k + 1, by omega, by go_num, by rw [HST.out.2], by rw [HST.out.1, HSS.out]; exact (Kp.alloc No _ _).heap hs.2 id, (hkq.trans hs.1 fun j hj e => by have e : j = g := e; omega).tr (Kp.alloc _ _ _)⟩
                  case measure => simp [intOf]; omega
                · have h2 : u.kd = 2 := hk12.resolve_left h1
                  have e1 : (u.kd == 1) = false := by rw [beq_eq_false_iff_ne]; exact h1
                  have e2 : (u.kd == 2) = true := by rw [beq_iff_eq]; exact h2
                  have HSS := Lib.hid (stepP_add (xAt l cs p k) h2 hfd)
                  have d6 : W2.cell? ⟨wr.heap.size, 6, none⟩ = some (.int .i64 (f : Int)) := by rw [cell_of_row _ _ _ _ _ _ HNEW.out, ← hfd]; rfl
                  have d7 : W2.cell? ⟨wr.heap.size, 7, none⟩ = some (.int .i64 u.vl) := by rw [cell_of_row _ _ _ _ _ _ HNEW.out]; rfl
                  have hne : wr.heap.size ≠ g := by omega
                  clear h1 h2 hfd hk12 hwf
                  go_wp2_with fail
                  rw [HWF.out]
                  refine wp_region_each (fun ix uR => match ix with | 0 => uR = .pointer (some ⟨wr.heap.size, 6, none⟩) | 1 => uR = .int .i64 (f : Int) | 2 => uR = .pointer (some ⟨wr.heap.size, 6, none⟩) | 3 => uR = .int .i64 (f : Int) | 4 => uR = .pointer (some ⟨g, 2, none⟩) | 5 => uR = .pointer (some ⟨g, 2 + f, none⟩) | 6 => uR = .int .i64 ((xAt l cs p k).get f) | 7 => uR = .pointer (some ⟨wr.heap.size, 7, none⟩) | 8 => uR = .int .i64 u.vl | 9 => uR = .int .i64 (wrap64 ((xAt l cs p k).get f + u.vl)) | 10 => uR = .pointer (some ⟨g, 2, none⟩) | 11 => uR = .pointer (some ⟨g, 2 + f, none⟩) | _ => True) (StI W2 (⟨g, 2 + f, none⟩) (.int .i64 (wrap64 ((xAt l cs p k).get f + u.vl))) 12 9 6) (by kernel_rfl) (by kernel_rfl) (by kernel_rfl) ?_ ?_ ?_
                  · exact StI.start _ _ _ _ _ _
                  · refine ⟨?_, ?_, ?_, ?_, ?_, ?_, ?_, ?_, ?_, ?_, ?_, ?_, ?_, trivial⟩
                    · intro r a w' hf hg hW hr hd K hK
                      refine wpOp_of rfl rfl ?_
                      have e0 : a.tmps.getD 11 undef = .pointer (some ⟨wr.heap.size, 0, none⟩) := hf.evalFree (by kernel_rfl)
                      go_simp
                      exact hK _ _ rfl (hW.upd 0 _ (by decide) (by decide))
                    · intro r a w' hf hg hW hr hd K hK
                      refine wpOp_of rfl rfl ?_
                      refine hf.depE hg hd 0 73 (by kernel_rfl) fun u0 e0 g0 h0 => ?_
                      replace g0 : u0 = .pointer (some ⟨wr.heap.size, 6, none⟩) := g0
                      subst g0
                      have z0 := hW.at_ d6 hne
                      go_simp
                      exact hK _ _ rfl (hW.upd 1 _ (by decide) (by decide))
                    · intro r a w' hf hg hW hr hd K hK
                      refine wpOp_of rfl rfl ?_
                      have e0 : a.tmps.getD 11 undef = .pointer (some ⟨wr.heap.size, 0, none⟩) := hf.evalFree (by kernel_rfl)
                      go_simp
                      exact hK _ _ rfl (hW.upd 2 _ (by decide) (by decide))
                    · intro r a w' hf hg hW hr hd K hK
                      refine wpOp_of rfl rfl ?_
                      refine hf.depE hg hd 2 75 (by kernel_rfl) fun u0 e0 g0 h0 => ?_
                      replace g0 : u0 = .pointer (some ⟨wr.heap.size, 6, none⟩) := g0
                      subst g0
                      have z0 := hW.at_ d6 hne
                      go_simp
                      exact hK _ _ rfl (hW.upd 3 _ (by decide) (by decide))
                    · intro r a w' hf hg hW hr hd K hK
                      refine wpOp_of rfl rfl ?_
                      have e0 : a.tmps.getD 8 undef = .pointer (some ⟨g, 0, none⟩) := hf.evalFree (by kernel_rfl)
                      go_simp
                      exact hK _ _ rfl (hW.upd 4 _ (by decide) (by decide))
                    · intro r a w' hf hg hW hr hd K hK
                      refine wpOp_of rfl rfl ?_
                      refine hf.depE hg hd 4 77 (by kernel_rfl) fun u0 e0 g0 h0 => ?_
                      replace g0 : u0 = .pointer (some ⟨g, 2, none⟩) := g0
                      subst g0
                      refine hf.depE hg hd 3 76 (by kernel_rfl) fun u1 e1 g1 h1 => ?_
                      replace g1 : u1 = .int .i64 (f : Int) := g1
                      subst g1
                      go_simp
                      exact hK _ _ rfl (hW.upd 5 _ (by decide) (by decide))
                    · intro r a w' hf hg hW hr hd K hK
                      refine wpOp_of rfl rfl ?_
                      refine hf.depE hg hd 5 78 (by kernel_rfl) fun u0 e0 g0 h0 => ?_
                      replace g0 : u0 = .pointer (some ⟨g, 2 + f, none⟩) := g0
                      subst g0
                      have hw' := hW.early hr
                      subst hw'
                      have p1 : W2.drew.cell? ⟨g, 2 + f, none⟩ = some (.int .i64 ((xAt l cs p k).get f)) := q1
                      go_simp
                      exact hK _ _ rfl (hW.upd 6 _ (by decide) (by decide))
                    · intro r a w' hf hg hW hr hd K hK
                      refine wpOp_of rfl rfl ?_
                      have e0 : a.tmps.getD 11 undef = .pointer (some ⟨wr.heap.size, 0, none⟩) := hf.evalFree (by kernel_rfl)
                      go_simp
                      exact hK _ _ rfl (hW.upd 7 _ (by decide) (by decide))
                    · intro r a w' hf hg hW hr hd K hK
                      refine wpOp_of rfl rfl ?_
                      refine hf.depE hg hd 7 80 (by kernel_rfl) fun u0 e0 g0 h0 => ?_
                      replace g0 : u0 = .pointer (some ⟨wr.heap.size, 7, none⟩) := g0
                      subst g0
                      have z0 := hW.at_ d7 hne
                      go_simp
                      exact hK _ _ rfl (hW.upd 8 _ (by decide) (by decide))
                    · intro r a w' hf hg hW hr hd K hK
                      refine wpOp_of rfl rfl ?_
                      refine hf.depE hg hd 6 79 (by kernel_rfl) fun u0 e0 g0 h0 => ?_
                      replace g0 : u0 = .int .i64 ((xAt l cs p k).get f) := g0
                      subst g0
                      refine hf.depE hg hd 8 81 (by kernel_rfl) fun u1 e1 g1 h1 => ?_
                      replace g1 : u1 = .int .i64 u.vl := g1
                      subst g1
                      have HDEP : r 6 ≠ none := by rw [h0]; simp
                      go_simp
                      rw [IntWalk.i64_left]
                      exact hK _ _ rfl (hW.updA _ (by decide) HDEP)
                    · intro r a w' hf hg hW hr hd K hK
                      refine wpOp_of rfl rfl ?_
                      have e0 : a.tmps.getD 8 undef = .pointer (some ⟨g, 0, none⟩) := hf.evalFree (by kernel_rfl)
                      go_simp
                      exact hK _ _ rfl (hW.upd 10 _ (by decide) (by decide))
                    · intro r a w' hf hg hW hr hd K hK
                      refine wpOp_of rfl rfl ?_
                      refine hf.depE hg hd 10 83 (by kernel_rfl) fun u0 e0 g0 h0 => ?_
                      replace g0 : u0 = .pointer (some ⟨g, 2, none⟩) := g0
                      subst g0
                      refine hf.depE hg hd 1 74 (by kernel_rfl) fun u1 e1 g1 h1 => ?_
                      replace g1 : u1 = .int .i64 (f : Int) := g1
                      subst g1
                      go_simp
                      exact hK _ _ rfl (hW.upd 11 _ (by decide) (by decide))
                    · intro r a w' hf hg hW hr hd K hK
                      refine wpOp_of rfl rfl ?_
                      refine hf.depE hg hd 11 84 (by kernel_rfl) fun u0 e0 g0 h0 => ?_
                      replace g0 : u0 = .pointer (some ⟨g, 2 + f, none⟩) := g0
                      subst g0
                      refine hf.depE hg hd 9 82 (by kernel_rfl) fun u1 e1 g1 h1 => ?_
                      replace g1 : u1 = .int .i64 (wrap64 ((xAt l cs p k).get f + u.vl)) := g1
                      subst g1
                      have hw' := hW.b0 hr
                      subst hw'
                      have p1 : W2.drew.cell? ⟨g, 2 + f, none⟩ = some (.int .i64 ((xAt l cs p k).get f)) := q1
                      have p2 : W2.drew.frozen? ⟨g, 2 + f, none⟩ = false := q2
                      go_simp
                      exact hK undef _ trivial (hW.store hr (by decide) (by decide) (by rw [h1]; simp) _)
                  intro r' w3 hg hW hr'
                  have hwE := hW.b1 (hr' 12 (by decide))
                  simp only [List.length_cons, List.length_nil, Nat.reduceAdd, List.range_succ, List.range_zero, List.nil_append, List.cons_append, List.map_cons, List.map_nil, putAll, Act.put, List.setIfInBounds_toArray, List.set_cons_succ, List.set_cons_zero]
                  clear hg hW hr'
                  subst hwE
                  go_wp2_with fail
                  go_roundw
                  case rel =>
                    have hs := setP HBA.out hf8 (wrap64 ((xAt l cs p k).get f + u.vl))
                    exact ⟨k + 1, by omega, by go_num, by rw [HST.out.2], by rw [HST.out.1, HSS.out]; exact hs.2, hkwA.trans hs.1 fun j hj e => by have e : j = g := e; omega⟩
                  case measure => simp [intOf]; omega
              · have e1 : (u.kd == 1) = false := by rw [beq_eq_false_iff_ne]; omega
                have e2 : (u.kd == 2) = false := by rw [beq_eq_false_iff_ne]; omega
                have HSS := Lib.hid (stepP_note (xAt l cs p k) h3)
                obtain ⟨r1, r2⟩ := HBX.out.at_ (j := 10) (u := .int .i64 (xAt l cs p k).no) rfl
                obtain ⟨r3, r4⟩ := HBX.out.at_ (j := 11) (u := .string (xAt l cs p k).la) rfl
                have hne : wr.heap.size ≠ g := by omega
                clear h3
                go_wp2_with fail
                go_roundw
                case rel =>
                  have hs := noteP HBX.out (wrap64 ((xAt l cs p k).no + 1)) u.tx
                  exact ⟨k + 1, by omega, by go_num, by rw [HST.out.2], by rw [HST.out.1, HSS.out]; exact (Kp.alloc No _ _).heap hs.2 id, (hkq.trans hs.1 fun j hj e => by have e : j = g := e; omega).tr (Kp.alloc _ _ _)⟩
                case measure => simp [intOf]; omega
            · have q5 : (u.rk == p.1 && u.nt == p.2) = false := by
                rw [← Bool.not_eq_true]
                intro h
                simp at h
                exact hpp (by unfold Wk.pp; rw [h.1, h.2])
              rw [q5] at hpe
              have HS2 := Lib.hid (HSK.out (.inr hpp))
              clear hpp h4 q5
              go_wp2_with fail
              go_roundw
              case rel => exact ⟨k + 1, by omega, by go_num, by rw [HS2.out.2], by rw [HS2.out.1]; exact (Kp.alloc No wr _).heap HBX.out id, hkq.tr (Kp.alloc _ _ _)⟩
              case measure => simp [intOf]; omega
        · obtain rfl : k = m := by omega
          have hx2 : xAt l cs p k = v ∧ doneAt l cs p k = true := by
            unfold xAt doneAt
            rw [HPP.out, HFV.out]
            exact ⟨rfl, rfl⟩
          have hbv := HBX.out
          rw [hx2.1] at hbv
          rw [hx2.2]
          obtain ⟨b', o', hbo, _, hav⟩ := RdP.at_ (HX.out.1.no hkq) HV.out
          cases hbo
          obtain ⟨a0, a1, a2, a3, a4, a5, a6, a7, a8, a9, a10, a11⟩ := hav
          have x0 : wr.cell? ⟨g, 0, none⟩ = some (.int .i64 v.p.1) := (hbv.at_ (j := 0) rfl).1
          have x1 : wr.cell? ⟨g, 1, none⟩ = some (.int .i64 v.p.2) := (hbv.at_ (j := 1) rfl).1
          have x2 : wr.cell? ⟨g, 2, none⟩ = some (.int .i64 v.f0) := (hbv.at_ (j := 2) rfl).1
          have x3 : wr.cell? ⟨g, 3, none⟩ = some (.int .i64 v.f1) := (hbv.at_ (j := 3) rfl).1
          have x4 : wr.cell? ⟨g, 4, none⟩ = some (.int .i64 v.f2) := (hbv.at_ (j := 4) rfl).1
          have x5 : wr.cell? ⟨g, 5, none⟩ = some (.int .i64 v.f3) := (hbv.at_ (j := 5) rfl).1
          have x6 : wr.cell? ⟨g, 6, none⟩ = some (.int .i64 v.f4) := (hbv.at_ (j := 6) rfl).1
          have x7 : wr.cell? ⟨g, 7, none⟩ = some (.int .i64 v.f5) := (hbv.at_ (j := 7) rfl).1
          have x8 : wr.cell? ⟨g, 8, none⟩ = some (.int .i64 v.f6) := (hbv.at_ (j := 8) rfl).1
          have x9 : wr.cell? ⟨g, 9, none⟩ = some (.int .i64 v.f7) := (hbv.at_ (j := 9) rfl).1
          have x10 : wr.cell? ⟨g, 10, none⟩ = some (.int .i64 v.no) := (hbv.at_ (j := 10) rfl).1
          have x11 : wr.cell? ⟨g, 11, none⟩ = some (.string v.la) := (hbv.at_ (j := 11) rfl).1
          have HE := fun w' => pv_equal w' v v
          rw [(eqV_iff v v).2 rfl] at HE
          simp only [Pv.val] at HE
          clear hbv hx2
          go_wp2_with fail
          go_quiet (fail)
          go_wp2_with fail
          go_roundw
          case rel => exact ⟨i + 1, by omega, by go_num, hkq.tr (Kp.drewN _ _ _)⟩
          case measure => simp [intOf]; omega
    · obtain rfl : i = n := by omega
      go_wp2_with fail
      go_loopw [12] (fun vi wr => ∃ k : Nat, k ≤ m ∧ vi = .int .i64 k ∧ Kp No w wr) (fun vi _ => m - (intOf vi).toNat)
      case atStart => exact ⟨0, by omega, rfl, hkp⟩
      case round =>
        obtain ⟨k, hk, rfl, hkq⟩ := hrel
        by_cases hkm : k < m
        · obtain ⟨u, hu⟩ : ∃ u, l[k]? = some u := ⟨_, List.getElem?_eq_getElem (by rw [HXL.out.2.1]; omega)⟩
          obtain ⟨c, hc⟩ : ∃ c, cs[k]? = some c := ⟨_, List.getElem?_eq_getElem (by rw [HXL.out.2.2]; omega)⟩
          obtain ⟨bu, ou, rfl, _, _⟩ := RdW.at_ (HX.out.2.1.no hkq) hu
          have HU := Lib.hid hu
          have HC := Lib.hid hc
          clear hu hc
          obtain ⟨W2, rfl⟩ : ∃ W2 : World, W2 = wr := ⟨_, rfl⟩
          go_wp2_with fail
          go_loopw [13, 14] (fun vf vj wr => ∃ j : Nat, j ≤ i ∧ vj = .int .i64 j ∧ vf = .bool (anyP (s.take j) u.pp) ∧ Kp No w wr) (fun _ vj _ => i - (intOf vj).toNat)
          case atStart => exact ⟨0, by omega, rfl, rfl, hkq⟩
          case round =>
            obtain ⟨j, hj, rfl, rfl, hkr⟩ := hrel
            obtain ⟨b2, o2, hb2, _, hau⟩ := RdW.at_ (HX.out.2.1.no hkr) HU.out
            cases hb2
            by_cases hji : j < i
            · obtain ⟨v, hv⟩ : ∃ v, s[j]? = some v := ⟨_, List.getElem?_eq_getElem (by rw [HXL.out.1]; omega)⟩
              obtain ⟨b, o, rfl, _, hat⟩ := RdP.at_ (HX.out.1.no hkr) hv
              obtain ⟨c0, c1, _⟩ := hat
              obtain ⟨_, _, _, _, u4, u5, _⟩ := hau
              have HSN := Lib.hid (show anyP (s.take (j + 1)) u.pp = (anyP (s.take j) u.pp || (v.p.1 == u.rk && v.p.2 == u.nt)) by rw [List.take_add_one, hv]; exact anyP_snoc _ _ _)
              have hpe := fun w' => pipe_equal w' v.p.1 v.p.2 u.rk u.nt
              generalize hq : (v.p.1 == u.rk && v.p.2 == u.nt) = q at hpe HSN
              generalize hf : anyP (s.take j) u.pp = f at HSN ⊢
              clear hv hq hf
              cases f with
              | true =>
                have HSN2 := Lib.hid (HSN.out.trans (Bool.true_or _))
                go_wp2_with fail
                go_quiet (fail)
                go_wp2_with fail
                go_roundw
                case rel => exact ⟨j + 1, by omega, by go_num, by rw [HSN2.out], hkr.tr (Kp.drewN _ _ _)⟩
                case measure => simp [intOf]; omega
              | false =>
                have HSN2 := Lib.hid (HSN.out.trans (Bool.false_or _))
                go_wp2_with fail
                go_quiet (fail)
                go_wp2_with fail
                go_roundw
                case rel => exact ⟨j + 1, by omega, by go_num, by rw [HSN2.out], hkr.tr (Kp.drewN _ _ _)⟩
                case measure => simp [intOf]; omega
            · obtain rfl : j = i := by omega
              rw [List.take_of_length_le (by rw [HXL.out.1]; omega)]
              obtain ⟨bc, oc, rfl, _, c00⟩ := (HX.out.2.2.no hkr).2 k c HC.out
              obtain ⟨_, _, _, u3, _⟩ := hau
              cases c with
              | false =>
                go_wp2_with fail
                go_roundw
                case rel => exact ⟨k + 1, by omega, by go_num, hkr⟩
                case measure => simp [intOf]; omega
              | true =>
                by_cases h4 : u.kd = 4
                · have q5 : (u.kd != 4) = false := by rw [h4]; rfl
                  clear h4
                  go_wp2_with fail
                  go_roundw
                  case rel => exact ⟨k + 1, by omega, by go_num, hkr⟩
                  case measure => simp [intOf]; omega
                · have q5 : (u.kd != 4) = true := by simp [h4]
                  obtain ⟨v, hvs, hvp⟩ := HF.out k u HU.out HC.out h4
                  rw [anyP_mem hvs hvp]
                  clear h4 hvs hvp
                  go_wp2_with fail
                  go_roundw
                  case rel => exact ⟨k + 1, by omega, by go_num, hkr⟩
                  case measure => simp [intOf]; omega
        · obtain rfl : k = m := by omega
          go_wp2_with fail
          go_ret
          exact ⟨rfl, hkq⟩
end Go.Proofs.Ytjbpdimepckmfaa
