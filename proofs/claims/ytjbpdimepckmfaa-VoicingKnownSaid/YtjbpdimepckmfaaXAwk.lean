/- Chapter 27: awake: the walk. Printed by gen_awk.py. -/
import Derived.Test.YtjbpdimepckmfaaXUndM
import Derived.Test.YtjbpdimepckmfaaXStt
import Derived.Test.YtjbpdimepckmfaaXLibHvM
namespace Go.Proofs.Ytjbpdimepckmfaa
open Go.RowKit Go.Kq

theorem chk13 : chkL [x1, x3] = 0 := by kernel_rfl
theorem chk12 : chkL [x1, x2] = 0 := by kernel_rfl
theorem mrg_ex : mrgF [x1, x3] [x1, x2] = 0 ∧ mrgV [x1, x3] [x1, x2] = [x1, x2, x3] := by
  have ha := rec_of chk13
  have hb := rec_of chk12
  have h0 : mrgE [x1, x3] [x1, x2] = 0 := by kernel_rfl
  have h1 : mrgF [x1, x3] [x1, x2] = 0 := by rw [mrgF_rec ha hb]; exact h0
  have hbo : bothW [x1, x3] [x1, x2] = [x1, x3, x2] := by kernel_rfl
  refine ⟨h1, ?_⟩
  unfold mrgV
  rw [if_pos h1]
  refine (mrg_uniq ha.names hb.names ?_ ?_).symm
  · rw [hbo]
    exact List.Perm.cons _ (List.Perm.swap _ _ _)
  · have : (decide ([x1, x2, x3].Pairwise fun x y => ltW y x = false)) = true := by kernel_rfl
    exact of_decide_eq_true this
def sx : Pv := ⟨(2, 60), 0, 0, 0, 0, 7, 0, 0, 0, 0, ⟨#[]⟩⟩
theorem cws_ex : cws [x1, x2, x3] = [x2] := by kernel_rfl
theorem chk_ex : chkL [x1, x2, x3] = 0 := by kernel_rfl
theorem st_ex {s : List Pv} (h : StRes [x1, x2, x3] s) : s = [sx] := by
  unfold StRes at h
  rw [if_pos chk_ex, cws_ex] at h
  refine isSt_uniq h ⟨by simp, fun v => ?_⟩
  have hst : ∀ p, stOf [x2] p = if x2.pp = p then some (stepP (pv0 p) x2) else none := fun p => rfl
  rw [hst]
  constructor
  · intro hv
    simp at hv
    subst hv
    have h1 : x2.pp = sx.p := by kernel_rfl
    have h2 : stepP (pv0 sx.p) x2 = sx := by kernel_rfl
    rw [if_pos h1, h2]
  · intro hv
    split at hv
    · rename_i hp
      injection hv with hv
      have h2 : stepP (pv0 x2.pp) x2 = sx := by kernel_rfl
      rw [← hp, h2] at hv
      simp [hv]
    · cases hv
theorem fits_ex2 : Fits [x1, x3] := fun v hv => by
  simp at hv
  rcases hv with rfl | rfl <;> decide
theorem fits_ex1 : Fits [x1, x2] := fun v hv => by
  simp at hv
  rcases hv with rfl | rfl <;> decide
theorem fits_ex : Fits [x1, x2, x3] := fun v hv => by
  simp at hv
  rcases hv with rfl | rfl | rfl <;> decide
set_option maxHeartbeats 4000000 in
set_option maxRecDepth 100000 in
theorem awake_any (w : World) : Calls Try.prog 13 #[] w fun e w' => e = .returned (.bool true) ∧ Kp No w w' := by
  go_enter Try.func13, Try.ntmps13
  go_wp2_with fail
  refine (Second_any _).mono ?_
  rintro e w1 ⟨v1, rfl, ho1, hk1⟩
  go_wp2_with fail
  refine (First_any _).mono ?_
  rintro e w2 ⟨v2, rfl, ho2, hk12⟩
  have hk2 := hk1.tr hk12
  obtain ⟨a1, c1, rfl, hc1, _, hA1⟩ := own_form ho1
  obtain ⟨a2, c2, rfl, hc2, _, _⟩ := own_form ho2
  have r1 : RdW w2 a1 2 [x1, x3] := Rd.no (Rd.of_own wk_len (by omega) ho1) hk12
  have r2 : RdW w2 a2 2 [x1, x2] := Rd.of_own wk_len (by omega) ho2
  have hM := Merge_any a1 2 c1 [x1, x3] a2 2 c2 [x1, x2] w2 r1 r2 fits_ex2 fits_ex1 (fun e => by obtain ⟨g, hg⟩ := hA1 (by omega); rw [hg] at e; cases e)
  rw [mrg_ex.1, mrg_ex.2] at hM
  clear ho1 ho2 r1 r2 hA1 hk12
  go_wp2_with fail
  refine hM.mono ?_
  rintro e w3 ⟨v3, rfl, ho3, hk23⟩
  have hk3 := hk2.tr hk23
  obtain ⟨a3, cl, rfl, _, _, hA3⟩ := own_form ho3
  obtain ⟨g, rfl⟩ := hA3 (by decide)
  have r3 : RdW w3 (some ⟨g, 0, none⟩) 3 [x1, x2, x3] := Rd.of_own wk_len (by omega) ho3
  have hS := State_any (some ⟨g, 0, none⟩) 3 cl [x1, x2, x3] w3 r3 fits_ex
  have HO3 := Lib.hid ho3
  clear hM hA3 r3 ho3
  go_wp2_with fail
  refine hS.mono ?_
  rintro e w6 ⟨v6, s, rfl, hs, ho6, hk36⟩
  obtain rfl := st_ex hs
  have hk6 := hk3.tr hk36
  obtain ⟨a6, cs, rfl, _, _, hA6⟩ := own_form ho6
  obtain ⟨h, rfl⟩ := hA6 (by decide)
  have d12 : w6.cell? ⟨g, 12, none⟩ = some (.int .i64 2) := hk36.cell (own_cell HO3.out (j := 12) rfl) id
  have d22 : w6.cell? ⟨g, 22, none⟩ = some (.int .i64 1) := hk36.cell (own_cell HO3.out (j := 22) rfl) id
  have s0 : w6.cell? ⟨h, 0, none⟩ = some (.int .i64 2) := own_cell ho6 (j := 0) rfl
  have s1 : w6.cell? ⟨h, 1, none⟩ = some (.int .i64 60) := own_cell ho6 (j := 1) rfl
  have s6 : w6.cell? ⟨h, 6, none⟩ = some (.int .i64 7) := own_cell ho6 (j := 6) rfl
  have HK6 := Lib.hid hk6
  have hpe := fun w' => pipe_equal w' 2 60 2 60
  rw [chk_ex]
  clear hS hs ho6 hA6 hk6 hk36 hk3 hk23 hk2 hk1 HO3
  go_wp2_with fail
  have FS : Stab (fun ix wz u => True) := fun ix u wz wz' kz h => trivial
  replace FS := Lib.hid FS
  refine wp_region_each (fun ix u => match ix with | 0 => u = .int .i64 0 | 1 => u = .bool true | 2 => u = .bool true | 3 => u = .int .i64 0 | 4 => u = .bool true | 5 => u = .bool true | 6 => u = .bool true | 7 => u = .slice (some ⟨g, 0, none⟩) 3 cl | 8 => u = .int .i64 3 | 9 => u = .bool true | 10 => u = .bool true | 11 => u = .bool true | 12 => u = .slice (some ⟨g, 0, none⟩) 3 cl | 13 => u = .pointer (some ⟨g, 11, none⟩) | 14 => u = .pointer (some ⟨g, 12, none⟩) | 15 => u = .int .i64 2 | 16 => u = .bool true | 17 => u = .bool true | 18 => u = .bool true | 19 => u = .slice (some ⟨g, 0, none⟩) 3 cl | 20 => u = .pointer (some ⟨g, 22, none⟩) | 21 => u = .pointer (some ⟨g, 22, none⟩) | 22 => u = .int .i64 1 | 23 => u = .bool true | 24 => u = .bool true | 25 => u = .bool true | 26 => u = .slice (some ⟨h, 0, none⟩) 1 cs | 27 => u = .int .i64 1 | 28 => u = .bool true | 29 => u = .bool true | 30 => u = .bool true | 31 => u = .slice (some ⟨h, 0, none⟩) 1 cs | 32 => u = .pointer (some ⟨h, 0, none⟩) | 33 => u = .pointer (some ⟨h, 0, none⟩) | 34 => u = .agg #[.int .i64 2, .int .i64 60] | 35 => u = .agg #[.int .i64 2, .int .i64 60] | 36 => u = .bool true | 37 => u = .bool true | 38 => u = .bool true | 39 => u = .slice (some ⟨h, 0, none⟩) 1 cs | 40 => u = .pointer (some ⟨h, 0, none⟩) | 41 => u = .pointer (some ⟨h, 2, none⟩) | 42 => u = .pointer (some ⟨h, 6, none⟩) | 43 => u = .int .i64 7 | 44 => u = .bool true | 45 => u = .bool true | 46 => u = .bool true | _ => True) (HvW w6 (fun ix wz u => True)) (by kernel_rfl) (by kernel_rfl) (by kernel_rfl) ?_ ?_ ?_
  · exact HvW.start _ _
  · refine ⟨?_, ?_, ?_, ?_, ?_, ?_, ?_, ?_, ?_, ?_, ?_, ?_, ?_, ?_, ?_, ?_, ?_, ?_, ?_, ?_, ?_, ?_, ?_, ?_, ?_, ?_, ?_, ?_, ?_, ?_, ?_, ?_, ?_, ?_, ?_, ?_, ?_, ?_, ?_, ?_, ?_, ?_, ?_, ?_, ?_, ?_, ?_, trivial⟩
    · intro r a w' hf hg hW hr hd K hK
      refine wpOp_of rfl rfl ?_
      have e0 : a.tmps.getD 2 undef = .int .i64 0 := hf.evalFree (by kernel_rfl)
      go_simp
      exact hK _ _ rfl (hW.upd 0 _ trivial)
    · intro r a w' hf hg hW hr hd K hK
      refine wpOp_of rfl rfl ?_
      refine hf.depE hg hd 0 16 (by kernel_rfl) fun u0 e0 g0 h0 => ?_
      replace g0 : u0 = .int .i64 0 := g0
      subst g0
      go_simp
      exact hK _ _ rfl (hW.upd 1 _ trivial)
    · intro r a w' hf hg hW hr hd K hK
      refine wpOp_of rfl rfl ?_
      refine hf.depE hg hd 1 17 (by kernel_rfl) fun u0 e0 g0 h0 => ?_
      replace g0 : u0 = .bool true := g0
      subst g0
      go_simp
      exact hK _ _ rfl (hW.upd 2 _ trivial)
    · intro r a w' hf hg hW hr hd K hK
      refine hf.depE hg hd 2 18 (by kernel_rfl) fun uG eG gG _ => ?_
      replace gG : uG = .bool true := gG
      subst gG
      refine wpOp_run rfl rfl rfl rfl eG ?_
      have e0 : a.tmps.getD 4 undef = .int .i64 0 := hf.evalFree (by kernel_rfl)
      go_simp
      exact hK _ _ rfl (hW.upd 3 _ trivial)
    · intro r a w' hf hg hW hr hd K hK
      refine hf.depE hg hd 2 18 (by kernel_rfl) fun uG eG gG _ => ?_
      replace gG : uG = .bool true := gG
      subst gG
      refine wpOp_run rfl rfl rfl rfl eG ?_
      refine hf.depE hg hd 3 19 (by kernel_rfl) fun u0 e0 g0 h0 => ?_
      replace g0 : u0 = .int .i64 0 := g0
      subst g0
      go_simp
      exact hK _ _ rfl (hW.upd 4 _ trivial)
    · intro r a w' hf hg hW hr hd K hK
      refine wpOp_of rfl rfl ?_
      refine hf.depE hg hd 2 18 (by kernel_rfl) fun u0 e0 g0 h0 => ?_
      replace g0 : u0 = .bool true := g0
      subst g0
      have e0' := get_of_getD e0
      refine hf.depE hg hd 4 20 (by kernel_rfl) fun u1 e1 g1 h1 => ?_
      replace g1 : u1 = .bool true := g1
      subst g1
      have e1' := get_of_getD e1
      go_simp
      exact hK _ _ rfl (hW.upd 5 _ trivial)
    · intro r a w' hf hg hW hr hd K hK
      refine wpOp_of rfl rfl ?_
      refine hf.depE hg hd 5 21 (by kernel_rfl) fun u0 e0 g0 h0 => ?_
      replace g0 : u0 = .bool true := g0
      subst g0
      go_simp
      exact hK _ _ rfl (hW.upd 6 _ trivial)
    · intro r a w' hf hg hW hr hd K hK
      refine hf.depE hg hd 6 22 (by kernel_rfl) fun uG eG gG _ => ?_
      replace gG : uG = .bool true := gG
      subst gG
      refine wpOp_run rfl rfl rfl rfl eG ?_
      have e0 : a.tmps.getD 1 undef = .slice (some ⟨g, 0, none⟩) 3 cl := hf.evalFree (by kernel_rfl)
      go_simp
      exact hK _ _ rfl (hW.upd 7 _ trivial)
    · intro r a w' hf hg hW hr hd K hK
      refine hf.depE hg hd 6 22 (by kernel_rfl) fun uG eG gG _ => ?_
      replace gG : uG = .bool true := gG
      subst gG
      refine wpOp_run rfl rfl rfl rfl eG ?_
      refine hf.depE hg hd 7 23 (by kernel_rfl) fun u0 e0 g0 h0 => ?_
      replace g0 : u0 = .slice (some ⟨g, 0, none⟩) 3 cl := g0
      subst g0
      go_simp
      exact hK _ _ rfl (hW.upd 8 _ trivial)
    · intro r a w' hf hg hW hr hd K hK
      refine hf.depE hg hd 6 22 (by kernel_rfl) fun uG eG gG _ => ?_
      replace gG : uG = .bool true := gG
      subst gG
      refine wpOp_run rfl rfl rfl rfl eG ?_
      refine hf.depE hg hd 8 24 (by kernel_rfl) fun u0 e0 g0 h0 => ?_
      replace g0 : u0 = .int .i64 3 := g0
      subst g0
      go_simp
      exact hK _ _ rfl (hW.upd 9 _ trivial)
    · intro r a w' hf hg hW hr hd K hK
      refine wpOp_of rfl rfl ?_
      refine hf.depE hg hd 6 22 (by kernel_rfl) fun u0 e0 g0 h0 => ?_
      replace g0 : u0 = .bool true := g0
      subst g0
      have e0' := get_of_getD e0
      refine hf.depE hg hd 9 25 (by kernel_rfl) fun u1 e1 g1 h1 => ?_
      replace g1 : u1 = .bool true := g1
      subst g1
      have e1' := get_of_getD e1
      go_simp
      exact hK _ _ rfl (hW.upd 10 _ trivial)
    · intro r a w' hf hg hW hr hd K hK
      refine wpOp_of rfl rfl ?_
      refine hf.depE hg hd 10 26 (by kernel_rfl) fun u0 e0 g0 h0 => ?_
      replace g0 : u0 = .bool true := g0
      subst g0
      go_simp
      exact hK _ _ rfl (hW.upd 11 _ trivial)
    · intro r a w' hf hg hW hr hd K hK
      refine hf.depE hg hd 11 27 (by kernel_rfl) fun uG eG gG _ => ?_
      replace gG : uG = .bool true := gG
      subst gG
      refine wpOp_run rfl rfl rfl rfl eG ?_
      have e0 : a.tmps.getD 1 undef = .slice (some ⟨g, 0, none⟩) 3 cl := hf.evalFree (by kernel_rfl)
      go_simp
      exact hK _ _ rfl (hW.upd 12 _ trivial)
    · intro r a w' hf hg hW hr hd K hK
      refine hf.depE hg hd 11 27 (by kernel_rfl) fun uG eG gG _ => ?_
      replace gG : uG = .bool true := gG
      subst gG
      refine wpOp_run rfl rfl rfl rfl eG ?_
      refine hf.depE hg hd 12 28 (by kernel_rfl) fun u0 e0 g0 h0 => ?_
      replace g0 : u0 = .slice (some ⟨g, 0, none⟩) 3 cl := g0
      subst g0
      go_simp
      exact hK _ _ rfl (hW.upd 13 _ trivial)
    · intro r a w' hf hg hW hr hd K hK
      refine hf.depE hg hd 11 27 (by kernel_rfl) fun uG eG gG _ => ?_
      replace gG : uG = .bool true := gG
      subst gG
      refine wpOp_run rfl rfl rfl rfl eG ?_
      refine hf.depE hg hd 13 29 (by kernel_rfl) fun u0 e0 g0 h0 => ?_
      replace g0 : u0 = .pointer (some ⟨g, 11, none⟩) := g0
      subst g0
      go_simp
      exact hK _ _ rfl (hW.upd 14 _ trivial)
    · intro r a w' hf hg hW hr hd K hK
      refine hf.depE hg hd 11 27 (by kernel_rfl) fun uG eG gG _ => ?_
      replace gG : uG = .bool true := gG
      subst gG
      refine wpOp_run rfl rfl rfl rfl eG ?_
      refine hf.depE hg hd 14 30 (by kernel_rfl) fun u0 e0 g0 h0 => ?_
      replace g0 : u0 = .pointer (some ⟨g, 12, none⟩) := g0
      subst g0
      have z0 := hW.kp.cell d12 id
      go_simp
      exact hK _ _ rfl (hW.upd 15 _ trivial)
    · intro r a w' hf hg hW hr hd K hK
      refine hf.depE hg hd 11 27 (by kernel_rfl) fun uG eG gG _ => ?_
      replace gG : uG = .bool true := gG
      subst gG
      refine wpOp_run rfl rfl rfl rfl eG ?_
      refine hf.depE hg hd 15 31 (by kernel_rfl) fun u0 e0 g0 h0 => ?_
      replace g0 : u0 = .int .i64 2 := g0
      subst g0
      go_simp
      exact hK _ _ rfl (hW.upd 16 _ trivial)
    · intro r a w' hf hg hW hr hd K hK
      refine wpOp_of rfl rfl ?_
      refine hf.depE hg hd 11 27 (by kernel_rfl) fun u0 e0 g0 h0 => ?_
      replace g0 : u0 = .bool true := g0
      subst g0
      have e0' := get_of_getD e0
      refine hf.depE hg hd 16 32 (by kernel_rfl) fun u1 e1 g1 h1 => ?_
      replace g1 : u1 = .bool true := g1
      subst g1
      have e1' := get_of_getD e1
      go_simp
      exact hK _ _ rfl (hW.upd 17 _ trivial)
    · intro r a w' hf hg hW hr hd K hK
      refine wpOp_of rfl rfl ?_
      refine hf.depE hg hd 17 33 (by kernel_rfl) fun u0 e0 g0 h0 => ?_
      replace g0 : u0 = .bool true := g0
      subst g0
      go_simp
      exact hK _ _ rfl (hW.upd 18 _ trivial)
    · intro r a w' hf hg hW hr hd K hK
      refine hf.depE hg hd 18 34 (by kernel_rfl) fun uG eG gG _ => ?_
      replace gG : uG = .bool true := gG
      subst gG
      refine wpOp_run rfl rfl rfl rfl eG ?_
      have e0 : a.tmps.getD 1 undef = .slice (some ⟨g, 0, none⟩) 3 cl := hf.evalFree (by kernel_rfl)
      go_simp
      exact hK _ _ rfl (hW.upd 19 _ trivial)
    · intro r a w' hf hg hW hr hd K hK
      refine hf.depE hg hd 18 34 (by kernel_rfl) fun uG eG gG _ => ?_
      replace gG : uG = .bool true := gG
      subst gG
      refine wpOp_run rfl rfl rfl rfl eG ?_
      refine hf.depE hg hd 19 35 (by kernel_rfl) fun u0 e0 g0 h0 => ?_
      replace g0 : u0 = .slice (some ⟨g, 0, none⟩) 3 cl := g0
      subst g0
      go_simp
      exact hK _ _ rfl (hW.upd 20 _ trivial)
    · intro r a w' hf hg hW hr hd K hK
      refine hf.depE hg hd 18 34 (by kernel_rfl) fun uG eG gG _ => ?_
      replace gG : uG = .bool true := gG
      subst gG
      refine wpOp_run rfl rfl rfl rfl eG ?_
      refine hf.depE hg hd 20 36 (by kernel_rfl) fun u0 e0 g0 h0 => ?_
      replace g0 : u0 = .pointer (some ⟨g, 22, none⟩) := g0
      subst g0
      go_simp
      exact hK _ _ rfl (hW.upd 21 _ trivial)
    · intro r a w' hf hg hW hr hd K hK
      refine hf.depE hg hd 18 34 (by kernel_rfl) fun uG eG gG _ => ?_
      replace gG : uG = .bool true := gG
      subst gG
      refine wpOp_run rfl rfl rfl rfl eG ?_
      refine hf.depE hg hd 21 37 (by kernel_rfl) fun u0 e0 g0 h0 => ?_
      replace g0 : u0 = .pointer (some ⟨g, 22, none⟩) := g0
      subst g0
      have z0 := hW.kp.cell d22 id
      go_simp
      exact hK _ _ rfl (hW.upd 22 _ trivial)
    · intro r a w' hf hg hW hr hd K hK
      refine hf.depE hg hd 18 34 (by kernel_rfl) fun uG eG gG _ => ?_
      replace gG : uG = .bool true := gG
      subst gG
      refine wpOp_run rfl rfl rfl rfl eG ?_
      refine hf.depE hg hd 22 38 (by kernel_rfl) fun u0 e0 g0 h0 => ?_
      replace g0 : u0 = .int .i64 1 := g0
      subst g0
      go_simp
      exact hK _ _ rfl (hW.upd 23 _ trivial)
    · intro r a w' hf hg hW hr hd K hK
      refine wpOp_of rfl rfl ?_
      refine hf.depE hg hd 18 34 (by kernel_rfl) fun u0 e0 g0 h0 => ?_
      replace g0 : u0 = .bool true := g0
      subst g0
      have e0' := get_of_getD e0
      refine hf.depE hg hd 23 39 (by kernel_rfl) fun u1 e1 g1 h1 => ?_
      replace g1 : u1 = .bool true := g1
      subst g1
      have e1' := get_of_getD e1
      go_simp
      exact hK _ _ rfl (hW.upd 24 _ trivial)
    · intro r a w' hf hg hW hr hd K hK
      refine wpOp_of rfl rfl ?_
      refine hf.depE hg hd 24 40 (by kernel_rfl) fun u0 e0 g0 h0 => ?_
      replace g0 : u0 = .bool true := g0
      subst g0
      go_simp
      exact hK _ _ rfl (hW.upd 25 _ trivial)
    · intro r a w' hf hg hW hr hd K hK
      refine hf.depE hg hd 25 41 (by kernel_rfl) fun uG eG gG _ => ?_
      replace gG : uG = .bool true := gG
      subst gG
      refine wpOp_run rfl rfl rfl rfl eG ?_
      have e0 : a.tmps.getD 3 undef = .slice (some ⟨h, 0, none⟩) 1 cs := hf.evalFree (by kernel_rfl)
      go_simp
      exact hK _ _ rfl (hW.upd 26 _ trivial)
    · intro r a w' hf hg hW hr hd K hK
      refine hf.depE hg hd 25 41 (by kernel_rfl) fun uG eG gG _ => ?_
      replace gG : uG = .bool true := gG
      subst gG
      refine wpOp_run rfl rfl rfl rfl eG ?_
      refine hf.depE hg hd 26 42 (by kernel_rfl) fun u0 e0 g0 h0 => ?_
      replace g0 : u0 = .slice (some ⟨h, 0, none⟩) 1 cs := g0
      subst g0
      go_simp
      exact hK _ _ rfl (hW.upd 27 _ trivial)
    · intro r a w' hf hg hW hr hd K hK
      refine hf.depE hg hd 25 41 (by kernel_rfl) fun uG eG gG _ => ?_
      replace gG : uG = .bool true := gG
      subst gG
      refine wpOp_run rfl rfl rfl rfl eG ?_
      refine hf.depE hg hd 27 43 (by kernel_rfl) fun u0 e0 g0 h0 => ?_
      replace g0 : u0 = .int .i64 1 := g0
      subst g0
      go_simp
      exact hK _ _ rfl (hW.upd 28 _ trivial)
    · intro r a w' hf hg hW hr hd K hK
      refine wpOp_of rfl rfl ?_
      refine hf.depE hg hd 25 41 (by kernel_rfl) fun u0 e0 g0 h0 => ?_
      replace g0 : u0 = .bool true := g0
      subst g0
      have e0' := get_of_getD e0
      refine hf.depE hg hd 28 44 (by kernel_rfl) fun u1 e1 g1 h1 => ?_
      replace g1 : u1 = .bool true := g1
      subst g1
      have e1' := get_of_getD e1
      go_simp
      exact hK _ _ rfl (hW.upd 29 _ trivial)
    · intro r a w' hf hg hW hr hd K hK
      refine wpOp_of rfl rfl ?_
      refine hf.depE hg hd 29 45 (by kernel_rfl) fun u0 e0 g0 h0 => ?_
      replace g0 : u0 = .bool true := g0
      subst g0
      go_simp
      exact hK _ _ rfl (hW.upd 30 _ trivial)
    · intro r a w' hf hg hW hr hd K hK
      refine hf.depE hg hd 30 46 (by kernel_rfl) fun uG eG gG _ => ?_
      replace gG : uG = .bool true := gG
      subst gG
      refine wpOp_run rfl rfl rfl rfl eG ?_
      have e0 : a.tmps.getD 3 undef = .slice (some ⟨h, 0, none⟩) 1 cs := hf.evalFree (by kernel_rfl)
      go_simp
      exact hK _ _ rfl (hW.upd 31 _ trivial)
    · intro r a w' hf hg hW hr hd K hK
      refine hf.depE hg hd 30 46 (by kernel_rfl) fun uG eG gG _ => ?_
      replace gG : uG = .bool true := gG
      subst gG
      refine wpOp_run rfl rfl rfl rfl eG ?_
      refine hf.depE hg hd 31 47 (by kernel_rfl) fun u0 e0 g0 h0 => ?_
      replace g0 : u0 = .slice (some ⟨h, 0, none⟩) 1 cs := g0
      subst g0
      go_simp
      exact hK _ _ rfl (hW.upd 32 _ trivial)
    · intro r a w' hf hg hW hr hd K hK
      refine hf.depE hg hd 30 46 (by kernel_rfl) fun uG eG gG _ => ?_
      replace gG : uG = .bool true := gG
      subst gG
      refine wpOp_run rfl rfl rfl rfl eG ?_
      refine hf.depE hg hd 32 48 (by kernel_rfl) fun u0 e0 g0 h0 => ?_
      replace g0 : u0 = .pointer (some ⟨h, 0, none⟩) := g0
      subst g0
      go_simp
      exact hK _ _ rfl (hW.upd 33 _ trivial)
    · intro r a w' hf hg hW hr hd K hK
      refine hf.depE hg hd 30 46 (by kernel_rfl) fun uG eG gG _ => ?_
      replace gG : uG = .bool true := gG
      subst gG
      refine wpOp_run rfl rfl rfl rfl eG ?_
      refine hf.depE hg hd 33 49 (by kernel_rfl) fun u0 e0 g0 h0 => ?_
      replace g0 : u0 = .pointer (some ⟨h, 0, none⟩) := g0
      subst g0
      have z0 := hW.kp.cell s0 id
      have z1 := hW.kp.cell s1 id
      go_simp
      exact hK _ _ rfl (hW.upd 34 _ trivial)
    · intro r a w' hf hg hW hr hd K hK
      refine hf.depE hg hd 30 46 (by kernel_rfl) fun uG eG gG _ => ?_
      replace gG : uG = .bool true := gG
      subst gG
      refine wpOp_run rfl rfl rfl rfl eG ?_
      go_simp
      refine (lpipe_any w').mono ?_
      rintro e w'' ⟨rfl, k'⟩
      exact hK _ _ rfl ((hW.call FS.out k').upd 35 _ trivial)
    · intro r a w' hf hg hW hr hd K hK
      refine hf.depE hg hd 30 46 (by kernel_rfl) fun uG eG gG _ => ?_
      replace gG : uG = .bool true := gG
      subst gG
      refine wpOp_run rfl rfl rfl rfl eG ?_
      refine hf.depE hg hd 34 50 (by kernel_rfl) fun u0 e0 g0 h0 => ?_
      replace g0 : u0 = .agg #[.int .i64 2, .int .i64 60] := g0
      subst g0
      refine hf.depE hg hd 35 51 (by kernel_rfl) fun u1 e1 g1 h1 => ?_
      replace g1 : u1 = .agg #[.int .i64 2, .int .i64 60] := g1
      subst g1
      go_simp
      exact hK _ _ rfl (hW.upd 36 _ trivial)
    · intro r a w' hf hg hW hr hd K hK
      refine wpOp_of rfl rfl ?_
      refine hf.depE hg hd 30 46 (by kernel_rfl) fun u0 e0 g0 h0 => ?_
      replace g0 : u0 = .bool true := g0
      subst g0
      have e0' := get_of_getD e0
      refine hf.depE hg hd 36 52 (by kernel_rfl) fun u1 e1 g1 h1 => ?_
      replace g1 : u1 = .bool true := g1
      subst g1
      have e1' := get_of_getD e1
      go_simp
      exact hK _ _ rfl (hW.upd 37 _ trivial)
    · intro r a w' hf hg hW hr hd K hK
      refine wpOp_of rfl rfl ?_
      refine hf.depE hg hd 37 53 (by kernel_rfl) fun u0 e0 g0 h0 => ?_
      replace g0 : u0 = .bool true := g0
      subst g0
      go_simp
      exact hK _ _ rfl (hW.upd 38 _ trivial)
    · intro r a w' hf hg hW hr hd K hK
      refine hf.depE hg hd 38 54 (by kernel_rfl) fun uG eG gG _ => ?_
      replace gG : uG = .bool true := gG
      subst gG
      refine wpOp_run rfl rfl rfl rfl eG ?_
      have e0 : a.tmps.getD 3 undef = .slice (some ⟨h, 0, none⟩) 1 cs := hf.evalFree (by kernel_rfl)
      go_simp
      exact hK _ _ rfl (hW.upd 39 _ trivial)
    · intro r a w' hf hg hW hr hd K hK
      refine hf.depE hg hd 38 54 (by kernel_rfl) fun uG eG gG _ => ?_
      replace gG : uG = .bool true := gG
      subst gG
      refine wpOp_run rfl rfl rfl rfl eG ?_
      refine hf.depE hg hd 39 55 (by kernel_rfl) fun u0 e0 g0 h0 => ?_
      replace g0 : u0 = .slice (some ⟨h, 0, none⟩) 1 cs := g0
      subst g0
      go_simp
      exact hK _ _ rfl (hW.upd 40 _ trivial)
    · intro r a w' hf hg hW hr hd K hK
      refine hf.depE hg hd 38 54 (by kernel_rfl) fun uG eG gG _ => ?_
      replace gG : uG = .bool true := gG
      subst gG
      refine wpOp_run rfl rfl rfl rfl eG ?_
      refine hf.depE hg hd 40 56 (by kernel_rfl) fun u0 e0 g0 h0 => ?_
      replace g0 : u0 = .pointer (some ⟨h, 0, none⟩) := g0
      subst g0
      go_simp
      exact hK _ _ rfl (hW.upd 41 _ trivial)
    · intro r a w' hf hg hW hr hd K hK
      refine hf.depE hg hd 38 54 (by kernel_rfl) fun uG eG gG _ => ?_
      replace gG : uG = .bool true := gG
      subst gG
      refine wpOp_run rfl rfl rfl rfl eG ?_
      refine hf.depE hg hd 41 57 (by kernel_rfl) fun u0 e0 g0 h0 => ?_
      replace g0 : u0 = .pointer (some ⟨h, 2, none⟩) := g0
      subst g0
      go_simp
      exact hK _ _ rfl (hW.upd 42 _ trivial)
    · intro r a w' hf hg hW hr hd K hK
      refine hf.depE hg hd 38 54 (by kernel_rfl) fun uG eG gG _ => ?_
      replace gG : uG = .bool true := gG
      subst gG
      refine wpOp_run rfl rfl rfl rfl eG ?_
      refine hf.depE hg hd 42 58 (by kernel_rfl) fun u0 e0 g0 h0 => ?_
      replace g0 : u0 = .pointer (some ⟨h, 6, none⟩) := g0
      subst g0
      have z0 := hW.kp.cell s6 id
      go_simp
      exact hK _ _ rfl (hW.upd 43 _ trivial)
    · intro r a w' hf hg hW hr hd K hK
      refine hf.depE hg hd 38 54 (by kernel_rfl) fun uG eG gG _ => ?_
      replace gG : uG = .bool true := gG
      subst gG
      refine wpOp_run rfl rfl rfl rfl eG ?_
      refine hf.depE hg hd 43 59 (by kernel_rfl) fun u0 e0 g0 h0 => ?_
      replace g0 : u0 = .int .i64 7 := g0
      subst g0
      go_simp
      exact hK _ _ rfl (hW.upd 44 _ trivial)
    · intro r a w' hf hg hW hr hd K hK
      refine wpOp_of rfl rfl ?_
      refine hf.depE hg hd 38 54 (by kernel_rfl) fun u0 e0 g0 h0 => ?_
      replace g0 : u0 = .bool true := g0
      subst g0
      have e0' := get_of_getD e0
      refine hf.depE hg hd 44 60 (by kernel_rfl) fun u1 e1 g1 h1 => ?_
      replace g1 : u1 = .bool true := g1
      subst g1
      have e1' := get_of_getD e1
      go_simp
      exact hK _ _ rfl (hW.upd 45 _ trivial)
    · intro r a w' hf hg hW hr hd K hK
      refine wpOp_of rfl rfl ?_
      refine hf.depE hg hd 45 61 (by kernel_rfl) fun u0 e0 g0 h0 => ?_
      replace g0 : u0 = .bool true := g0
      subst g0
      go_simp
      exact hK _ _ rfl (hW.upd 46 _ trivial)
  intro r' w7 hg hW hr'
  have hkN := hW.kp
  obtain ⟨q46, hq46⟩ : ∃ u, r' 46 = some u := Option.ne_none_iff_exists'.1 (hr' 46 (by decide))
  have hk46 := hg 46 q46 hq46
  replace hk46 : q46 = .bool true := hk46
  subst hk46
  simp only [List.length_cons, List.length_nil, Nat.reduceAdd, List.range_succ, List.range_zero, List.nil_append, List.cons_append, List.map_cons, List.map_nil, putAll, Act.put, List.setIfInBounds_toArray, List.set_cons_succ, List.set_cons_zero, hq46, Option.getD_some]
  clear hg hW hr' FS hq46
  go_wp2_with fail
  go_ret
  exact ⟨rfl, HK6.out.tr hkN⟩
end Go.Proofs.Ytjbpdimepckmfaa
