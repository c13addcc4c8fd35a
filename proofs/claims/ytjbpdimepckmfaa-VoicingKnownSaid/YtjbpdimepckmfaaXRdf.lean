/- Chapter 27: the reference's of and Differ: the walks. -/
import Derived.Test.YtjbpdimepckmfaaXHisPM
import Derived.Test.YtjbpdimepckmfaaXRst
namespace Go.Proofs.Ytjbpdimepckmfaa
open Go.RowKit Go.Kq

theorem boxP_all {W : World} {g : Nat} {v : Pv} (h : BoxP W g v) : ∀ j u, v.cells[j]? = some u → W.cell? ⟨g, 0 + j, none⟩ = some u := fun j u hj => by rw [Nat.zero_add]; exact (h.at_ hj).1
theorem boxP_free {W : World} {g : Nat} {v : Pv} (h : BoxP W g v) (j : Nat) : W.frozen? ⟨g, j, none⟩ = false := by
  unfold BoxP at h
  simp [World.frozen?, h]
/-- What has been done to a pipe, stored whole. -/
def putP (W : World) (g : Nat) (u : Pv) : World := (((((((((((W.setCell ⟨g, 0, none⟩ (.int .i64 u.p.1)).setCell ⟨g, 1, none⟩ (.int .i64 u.p.2)).setCell ⟨g, 2, none⟩ (.int .i64 u.f0)).setCell ⟨g, 3, none⟩ (.int .i64 u.f1)).setCell ⟨g, 4, none⟩ (.int .i64 u.f2)).setCell ⟨g, 5, none⟩ (.int .i64 u.f3)).setCell ⟨g, 6, none⟩ (.int .i64 u.f4)).setCell ⟨g, 7, none⟩ (.int .i64 u.f5)).setCell ⟨g, 8, none⟩ (.int .i64 u.f6)).setCell ⟨g, 9, none⟩ (.int .i64 u.f7)).setCell ⟨g, 10, none⟩ (.int .i64 u.no)).setCell ⟨g, 11, none⟩ (.string u.la)
theorem BoxP.put {W : World} {g : Nat} {v : Pv} (h : BoxP W g v) (u : Pv) : BoxP (putP W g u) g u ∧ Kp (Kq.One g) W (putP W g u) := by
  refine ⟨?_, ?_⟩
  · unfold BoxP putP at *
    simp [World.setCell, Array.getElem?_modify, h]
    rfl
  · unfold putP
    exact (((((((((((kp_setOne _ _ _ _).tr (kp_setOne _ _ _ _)).tr (kp_setOne _ _ _ _)).tr (kp_setOne _ _ _ _)).tr (kp_setOne _ _ _ _)).tr (kp_setOne _ _ _ _)).tr (kp_setOne _ _ _ _)).tr (kp_setOne _ _ _ _)).tr (kp_setOne _ _ _ _)).tr (kp_setOne _ _ _ _)).tr (kp_setOne _ _ _ _)).tr (kp_setOne _ _ _ _)
theorem stP_at {x : List Pv} {i : Nat} {u : Pv} {p : Pp} (hu : x[i]? = some u) (hp : u.p = p) (hno : ∀ v ∈ x.take i, v.p ≠ p) : stP x p = some u := by
  obtain ⟨hi, he⟩ := List.getElem?_eq_some_iff.1 hu
  have h : x = x.take i ++ u :: x.drop (i + 1) := by rw [← he, List.getElem_cons_drop, List.take_append_drop]
  unfold stP
  rw [h, List.find?_append, List.find?_eq_none.2 (fun v hv => by simpa using hno v hv)]
  simp [hp]
set_option maxHeartbeats 2000000 in
set_option maxRecDepth 100000 in
theorem rof_any (A : Option Addr) (n ca : Nat) (x : List Pv) (p : Pp) (w : World) (hx : RdP w A n x) (hn : n ≤ 100000) :
    Calls Try.prog 63 #[.slice A n ca, ep p] w fun e w' => e = .returned (.tuple #[((stP x p).getD default).val, .bool (stP x p).isSome]) ∧ Kp No w w' := by
  have HX := Lib.hid hx
  have HL := Lib.hid hx.1
  obtain ⟨R, hR⟩ : ∃ R, R = stP x p := ⟨_, rfl⟩
  rw [← hR]
  have HR := Lib.hid hR
  have HCEL := Lib.hid (show (.cells #[.int .i64 0, .int .i64 0, .int .i64 0, .int .i64 0, .int .i64 0, .int .i64 0, .int .i64 0, .int .i64 0, .int .i64 0, .int .i64 0, .int .i64 0, .string ⟨#[]⟩] 64 : Obj) = .cells (default : Pv).cells.toArray 64 from rfl)
  simp only [ep]
  clear hx hR
  go_enter Try.func63, Try.ntmps63
  go_wp2_with fail
  obtain ⟨W0, hW0⟩ : ∃ W0, W0 = (w.alloc (.cells #[.int .i64 p.1, .int .i64 p.2] 39)).alloc (.cells (default : Pv).cells.toArray 64) := ⟨_, rfl⟩
  have hk0 : Kp No w W0 := by rw [hW0]; exact (Kp.alloc _ _ _).tr (Kp.alloc _ _ _)
  have hbA : W0.heap[w.heap.size]? = some (.cells #[.int .i64 p.1, .int .i64 p.2] 39 (0, 0)) := by rw [hW0]; exact (Kp.alloc No _ _).heap (heap_alloc_new _ _) id
  have hbB : BoxP W0 (w.heap.size + 1) default := by
    rw [hW0]
    have h := heap_alloc_new (w.alloc (.cells #[.int .i64 p.1, .int .i64 p.2] 39)) (.cells (default : Pv).cells.toArray 64)
    rw [World.size_alloc] at h
    exact h
  change Code.wp _ _ _ _ ((w.alloc (.cells #[.int .i64 p.1, .int .i64 p.2] 39)).alloc (.cells (default : Pv).cells.toArray 64))
  rw [← hW0]
  obtain ⟨g, hg⟩ : ∃ g, g = w.heap.size := ⟨_, rfl⟩
  rw [← hg] at hbA hbB ⊢
  have HBA := Lib.hid hbA
  have HBB := Lib.hid hbB
  have HG := Lib.hid hg
  clear hW0 hbA hbB hg HCEL
  go_loopw [6] (fun vi wr => ∃ i : Nat, i ≤ n ∧ vi = .int .i64 i ∧ (∀ v ∈ x.take i, v.p ≠ p) ∧ Kp No W0 wr) (fun vi _ => n - (intOf vi).toNat)
  case atStart => exact ⟨0, by omega, rfl, by simp, Kp.refl _ _⟩
  case round =>
    obtain ⟨i, hi, rfl, hno, hkp⟩ := hrel
    have HN := Lib.hid hno
    clear hno
    have hkw := hk0.tr hkp
    by_cases hlt : i < n
    · obtain ⟨u, hu⟩ : ∃ u, x[i]? = some u := ⟨_, List.getElem?_eq_getElem (by rw [HL.out]; omega)⟩
      obtain ⟨b, o, rfl, _, d0, d1, d2, d3, d4, d5, d6, d7, d8, d9, d10, d11⟩ := RdP.at_ (HX.out.no hkw) hu
      have hbr := hkp.heap HBA.out id
      have b0 : wr.cell? ⟨g, 0, none⟩ = some (.int .i64 p.1) := by rw [cell_of_row _ _ _ _ _ _ hbr]; rfl
      have b1 : wr.cell? ⟨g, 1, none⟩ = some (.int .i64 p.2) := by rw [cell_of_row _ _ _ _ _ _ hbr]; rfl
      have HE := fun w' => pp_equal w' u.p p
      simp only [ep] at HE
      have HU := Lib.hid hu
      have hcast : (i : Int) < (n : Int) := by omega
      clear hbr hu
      by_cases he : u.p = p
      · rw [decide_eq_true he] at HE
        have HF := Lib.hid (stP_at HU.out he HN.out)
        clear he
        go_wp2_with fail
        go_quiet (fail)
        have hkq := hkp.tr (Kp.drewN No wr nq)
        obtain ⟨b', o', hbo, _, hau⟩ := RdP.at_ (HX.out.no (hk0.tr hkq)) HU.out
        cases hbo
        clear d0 d1 d2 d3 d4 d5 d6 d7 d8 d9 d10 d11 b0 b1 HE
        generalize wr.drewN nq = wq at hkq hau ⊢
        obtain ⟨d0, d1, d2, d3, d4, d5, d6, d7, d8, d9, d10, d11⟩ := hau
        have HB := Lib.hid (hkq.heap HBB.out id : BoxP wq (g + 1) default)
        obtain ⟨p0, p1, p2, p3, p4, p5, p6, p7, p8, p9, p10, p11⟩ := PvAt.of (boxP_all HB.out)
        have fz := boxP_free HB.out
        have f0 := fz 0
        have f1 := fz 1
        have f2 := fz 2
        have f3 := fz 3
        have f4 := fz 4
        have f5 := fz 5
        have f6 := fz 6
        have f7 := fz 7
        have f8 := fz 8
        have f9 := fz 9
        have f10 := fz 10
        have f11 := fz 11
        simp only [Nat.zero_add] at p1 p2 p3 p4 p5 p6 p7 p8 p9 p10 p11
        clear fz
        go_wp2_with fail
        obtain ⟨hb5, hkz⟩ := BoxP.put HB.out u
        have HK6 := Lib.hid (show Kp No w (putP wq (g + 1) u) from (hk0.tr hkq).trans hkz fun k hk e => by have e : k = g + 1 := e; have := HG.out; omega)
        obtain ⟨r0, r1, r2, r3, r4, r5, r6, r7, r8, r9, r10, r11⟩ := PvAt.of (boxP_all hb5)
        simp only [Nat.zero_add] at r1 r2 r3 r4 r5 r6 r7 r8 r9 r10 r11
        clear p0 p1 p2 p3 p4 p5 p6 p7 p8 p9 p10 p11 f0 f1 f2 f3 f4 f5 f6 f7 f8 f9 f10 f11 d0 d1 d2 d3 d4 d5 d6 d7 d8 d9 d10 d11
        change bodyPost _ _ _ _ _ (putP wq (g + 1) u)
        generalize putP wq (g + 1) u = W5 at *
        refine bodyPost_ret (v := .tuple #[u.val, .bool true]) (by simp [results, Try.results63, go_sem, r0, r1, r2, r3, r4, r5, r6, r7, r8, r9, r10, r11]; try rfl) rfl ⟨by rw [HR.out, HF.out]; rfl, HK6.out⟩
      · rw [decide_eq_false he] at HE
        have HF := Lib.hid he
        clear he
        go_wp2_with fail
        go_quiet (fail)
        go_wp2_with fail
        go_roundw
        case rel =>
          refine ⟨i + 1, by omega, by go_num, fun v hv => ?_, hkp.tr (Kp.drewN _ _ _)⟩
          rw [List.take_add_one, HU.out] at hv
          rcases List.mem_append.1 hv with hv | hv
          · exact HN.out v hv
          · simp at hv
            rw [hv]
            exact HF.out
        case measure => simp [intOf]; omega
    · obtain rfl : i = n := by omega
      have HF := Lib.hid (show stP x p = none from stP_none.2 (by have := HN.out; rwa [List.take_of_length_le (by rw [HL.out]; exact Nat.le_refl _)] at this))
      have HB := Lib.hid (hkp.heap HBB.out id : BoxP wr (g + 1) default)
      obtain ⟨p0, p1, p2, p3, p4, p5, p6, p7, p8, p9, p10, p11⟩ := PvAt.of (boxP_all HB.out)
      have fz := boxP_free HB.out
      have f0 := fz 0
      have f1 := fz 1
      have f2 := fz 2
      have f3 := fz 3
      have f4 := fz 4
      have f5 := fz 5
      have f6 := fz 6
      have f7 := fz 7
      have f8 := fz 8
      have f9 := fz 9
      have f10 := fz 10
      have f11 := fz 11
      simp only [Nat.zero_add] at p1 p2 p3 p4 p5 p6 p7 p8 p9 p10 p11
      clear fz
      go_wp2_with fail
      obtain ⟨hb5, hkz⟩ := BoxP.put HB.out (default : Pv)
      have HK6 := Lib.hid (show Kp No w (putP wr (g + 1) default) from hkw.trans hkz fun k hk e => by have e : k = g + 1 := e; have := HG.out; omega)
      obtain ⟨r0, r1, r2, r3, r4, r5, r6, r7, r8, r9, r10, r11⟩ := PvAt.of (boxP_all hb5)
      simp only [Nat.zero_add] at r1 r2 r3 r4 r5 r6 r7 r8 r9 r10 r11
      clear p0 p1 p2 p3 p4 p5 p6 p7 p8 p9 p10 p11 f0 f1 f2 f3 f4 f5 f6 f7 f8 f9 f10 f11
      change bodyPost _ _ _ _ _ (putP wr (g + 1) default)
      generalize putP wr (g + 1) default = W5 at *
      refine bodyPost_ret (v := .tuple #[(default : Pv).val, .bool false]) (by simp [results, Try.results63, go_sem, r0, r1, r2, r3, r4, r5, r6, r7, r8, r9, r10, r11]; try rfl) rfl ⟨by rw [HR.out, HF.out]; rfl, HK6.out⟩
end Go.Proofs.Ytjbpdimepckmfaa
