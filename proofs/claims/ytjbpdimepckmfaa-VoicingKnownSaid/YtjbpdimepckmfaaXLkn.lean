/- Chapter 27: VoicingKnown: the walk. Printed by gen_lkn.py. -/
import Derived.Test.YtjbpdimepckmfaaXLknPM
import Derived.Test.YtjbpdimepckmfaaXStt
import Derived.Test.YtjbpdimepckmfaaXNxt
import Derived.Test.YtjbpdimepckmfaaXDfw
import Derived.Test.YtjbpdimepckmfaaXHis
import Derived.Test.YtjbpdimepckmfaaXSin2M
import Derived.Test.YtjbpdimepckmfaaXLibHvM
namespace Go.Proofs.Ytjbpdimepckmfaa
open Go.RowKit Go.Kq

def IsI (l : List Int) (w : World) (u : Value) : Prop := ∃ g, u = .slice (some ⟨g, 0, none⟩) l.length l.length ∧ RdI .i64 w (some ⟨g, 0, none⟩) l.length l
theorem IsI.no {l : List Int} {w w' : World} {u : Value} (h : IsI l w u) (k : Kp No w w') : IsI l w' u := by
  obtain ⟨g, rfl, hr⟩ := h
  exact ⟨g, rfl, hr.no k⟩
theorem IsI.made (l : List Int) (w : World) (hl : l.length ≤ maxLen) : IsI l (w.alloc (.cells (l.map (Value.int .i64)).toArray 3)) (.slice (some ⟨w.heap.size, 0, none⟩) l.length l.length) :=
  ⟨_, rfl, RdI.of_own (own_made (e := 3) (s := 1) (n := l.length) (xs := l.map (Value.int .i64)) w (by simp) (Nat.le_refl _) hl)⟩
set_option maxHeartbeats 8000000 in
set_option maxRecDepth 100000 in
theorem tknown_any (w : World) : Calls Try.prog 11 #[] w fun e w' => e = .returned (.bool true) ∧ Kp No w w' := by
  go_enter Try.func11, Try.ntmps11
  go_wp2_with fail
  refine (First_any _).mono ?_
  rintro e w1 ⟨v1, rfl, ho1, hk1⟩
  go_wp2_with fail
  refine (Second_any _).mono ?_
  rintro e w2 ⟨v2, rfl, ho2, hk12⟩
  have hk2 := hk1.tr hk12
  obtain ⟨a1, c1, rfl, hc1, _, hA1⟩ := own_form ho1
  obtain ⟨g1, rfl⟩ := hA1 (by decide)
  obtain ⟨a2, c2, rfl, hc2, _, hA2⟩ := own_form ho2
  obtain ⟨g2, rfl⟩ := hA2 (by decide)
  have R1 := Lib.hid (Rd.no (Rd.of_own wk_len (by omega) ho1) hk12 : RdW w2 (some ⟨g1, 0, none⟩) 2 [x1, x2])
  have R2 := Lib.hid (Rd.of_own wk_len (by omega) ho2 : RdW w2 (some ⟨g2, 0, none⟩) 2 [x1, x3])
  have HK2 := Lib.hid hk2
  clear ho1 ho2 hA1 hA2 hk1 hk12 hk2
  go_wp2_with fail
  refine (State_any (some ⟨g1, 0, none⟩) 2 c1 [x1, x2] w2 R1.out fits_ex1).mono ?_
  rintro e w3 ⟨v3, s, rfl, hs, ho3, hk23⟩
  obtain rfl := st_ex1 hs
  obtain ⟨a3, c3, rfl, _, _, hA3⟩ := own_form ho3
  obtain ⟨g3, rfl⟩ := hA3 (by decide)
  rw [chk12]
  have HO3 := Lib.hid ho3
  have HK3 := Lib.hid hk23
  clear hs ho3 hA3 hk23
  go_wp2_with fail
  refine (State_any (some ⟨g2, 0, none⟩) 2 c2 [x1, x3] w3 (R2.out.no HK3.out) fits_ex2).mono ?_
  rintro e w4 ⟨v4, s, rfl, hs, ho4, hk34⟩
  obtain rfl := st_ex0 hs
  obtain ⟨a4, c4, rfl, _, _, hA4⟩ := own_form ho4
  rw [chk13]
  have HK4 := Lib.hid (HK3.out.tr hk34)
  have HO34 := Lib.hid (hk34.owns HO3.out fun _ _ e => e)
  clear hs ho4 hA4 hk34
  go_wp2_with fail
  have hM := Merge_any (some ⟨g1, 0, none⟩) 2 c1 [x1, x2] (some ⟨g2, 0, none⟩) 2 c2 [x1, x3] w4 (R1.out.no HK4.out) (R2.out.no HK4.out) fits_ex1 fits_ex2 (fun e => by cases e)
  rw [mrg_ex1.1, mrg_ex1.2] at hM
  refine hM.mono ?_
  rintro e w5 ⟨v5, rfl, ho5, hk45⟩
  obtain ⟨a5, c5, rfl, _, _, hA5⟩ := own_form ho5
  obtain ⟨g5, rfl⟩ := hA5 (by decide)
  have R5 := Lib.hid (Rd.of_own wk_len (by omega) ho5 : RdW w5 (some ⟨g5, 0, none⟩) 3 [x1, x2, x3])
  have HK5 := Lib.hid (HK4.out.tr hk45)
  have HO35 := Lib.hid (hk45.owns HO34.out fun _ _ e => e)
  clear hM ho5 hA5 hk45
  go_wp2_with fail
  have hU := Undone_any (some ⟨g5, 0, none⟩) 3 c5 [x1, x2, x3] w5 R5.out fits_ex
  rw [chk_ex, und_ex] at hU
  refine hU.mono ?_
  rintro e w6 ⟨v6, rfl, ho6, hk56⟩
  obtain ⟨a6, c6, rfl, _, _, hA6⟩ := own_form ho6
  obtain ⟨g6, rfl⟩ := hA6 (by decide)
  have b0 : w6.cell? ⟨g6, 0, none⟩ = some (.bool true) := own_cell ho6 (j := 0) rfl
  have b1 : w6.cell? ⟨g6, 1, none⟩ = some (.bool false) := own_cell ho6 (j := 1) rfl
  have b2 : w6.cell? ⟨g6, 2, none⟩ = some (.bool false) := own_cell ho6 (j := 2) rfl
  have s6 : w6.cell? ⟨g3, 6, none⟩ = some (.int .i64 57) := hk56.cell (own_cell HO35.out (j := 6) rfl) id
  have HK6 := Lib.hid (HK5.out.tr hk56)
  have R56 := Lib.hid (R5.out.no hk56)
  clear hU ho6 hA6 hk56
  go_wp2_with fail
  have hS := Seen_any (some ⟨g2, 0, none⟩) 2 c2 [x1, x3] w6 (R2.out.no HK6.out) fits_ex2
  rw [chk13, seen_ex] at hS
  refine hS.mono ?_
  rintro e w7 ⟨v7, rfl, ho7, hk67⟩
  obtain ⟨a7, c7, rfl, _, _, hA7⟩ := own_form ho7
  obtain ⟨g7, rfl⟩ := hA7 (by decide)
  have RS := Lib.hid (RdI.of_own ho7)
  have HO7 := Lib.hid ho7
  have HK7 := Lib.hid (HK6.out.tr hk67)
  have R57 := Lib.hid (R56.out.no hk67)
  clear hS ho7 hA7 hk67 b0 b1 b2 s6
  go_wp2_with fail
  have hS := Since_any (some ⟨g1, 0, none⟩) 2 c1 [x1, x2] (some ⟨g7, 0, none⟩) 20 c7 _ w7 (R1.out.no HK7.out) fits_ex1 (fun e => by cases e) RS.out (by decide)
  rw [since_ex.1, since_ex.2] at hS
  refine hS.mono ?_
  rintro e w8 ⟨v8, rfl, ho8, hk78⟩
  obtain ⟨a8, c8, rfl, _, _, hA8⟩ := own_form ho8
  obtain ⟨g8, rfl⟩ := hA8 (by decide)
  have HO8 := Lib.hid ho8
  have HK8 := Lib.hid (HK7.out.tr hk78)
  have HO78 := Lib.hid (hk78.owns HO7.out fun _ _ e => e)
  have R58 := Lib.hid (R57.out.no hk78)
  clear hS ho8 hA8 hk78 RS
  go_wp2_with fail
  change Calls _ _ #[_, u3.val] _ _
  have hN := Next_any (some ⟨g1, 0, none⟩) 2 c1 [x1, x2] u3 w8 (R1.out.no HK8.out) fits_ex1 (by decide)
  rw [next_ex1, show u3n.val = .agg #[.int .i64 3, .int .i64 1, .int .i64 3, .int .i64 4, .int .i64 0, .int .i64 0, .int .i64 0, .int .i64 0, .int .i64 0, .int .i64 2, .string ⟨#[]⟩] from rfl] at hN
  refine hN.mono ?_
  rintro e w9 ⟨rfl, hk89⟩
  have HK9 := Lib.hid (HK8.out.tr hk89)
  have HO79 := Lib.hid (hk89.owns HO78.out fun _ _ e => e)
  have HO89 := Lib.hid (hk89.owns HO8.out fun _ _ e => e)
  have R59 := Lib.hid (R58.out.no hk89)
  clear hN hk89
  go_wp2_with fail
  have hk9a : Kp No w9 (w9.alloc (.cells #[.int .i64 3, .int .i64 1, .int .i64 3, .int .i64 4, .int .i64 0, .int .i64 0, .int .i64 0, .int .i64 0, .int .i64 0, .int .i64 2, .string ⟨#[]⟩] 41)) := Kp.alloc _ _ _
  have hbx : (w9.alloc (.cells #[.int .i64 3, .int .i64 1, .int .i64 3, .int .i64 4, .int .i64 0, .int .i64 0, .int .i64 0, .int .i64 0, .int .i64 0, .int .i64 2, .string ⟨#[]⟩] 41)).heap[w9.heap.size]? = some (.cells #[.int .i64 3, .int .i64 1, .int .i64 3, .int .i64 4, .int .i64 0, .int .i64 0, .int .i64 0, .int .i64 0, .int .i64 0, .int .i64 2, .string ⟨#[]⟩] 41 (0, 0)) := heap_alloc_new _ _
  generalize w9.alloc (.cells #[.int .i64 3, .int .i64 1, .int .i64 3, .int .i64 4, .int .i64 0, .int .i64 0, .int .i64 0, .int .i64 0, .int .i64 0, .int .i64 2, .string ⟨#[]⟩] 41) = w9a at hk9a hbx ⊢
  obtain ⟨gb, hgb⟩ : ∃ gb, gb = w9.heap.size := ⟨_, rfl⟩
  rw [← hgb] at hbx ⊢
  clear hgb
  change Calls _ _ #[_, u0.val] _ _
  have hN := Next_any (some ⟨g2, 0, none⟩) 2 c2 [x1, x3] u0 w9a (R2.out.no (HK9.out.tr hk9a)) fits_ex2 (by decide)
  rw [next_ex0] at hN
  refine hN.mono ?_
  rintro e w10 ⟨rfl, hkz⟩
  have hk910 := hk9a.tr hkz
  have HK10 := Lib.hid (HK9.out.tr hk910)
  have R510 := Lib.hid (R59.out.no hk910)
  have hbx10 := hkz.heap hbx id
  have n1 : w10.cell? ⟨gb, 1, none⟩ = some (.int .i64 1) := by rw [cell_of_row _ _ _ _ _ _ hbx10]; rfl
  have n2 : w10.cell? ⟨gb, 2, none⟩ = some (.int .i64 3) := by rw [cell_of_row _ _ _ _ _ _ hbx10]; rfl
  have q0 : w10.cell? ⟨g7, 0, none⟩ = some (.int .i64 1) := hk910.cell (own_cell HO79.out (j := 0) rfl) id
  have q1 : w10.cell? ⟨g7, 1, none⟩ = some (.int .i64 1) := hk910.cell (own_cell HO79.out (j := 1) rfl) id
  have q2 : w10.cell? ⟨g7, 2, none⟩ = some (.int .i64 0) := hk910.cell (own_cell HO79.out (j := 2) rfl) id
  have m0 : w10.cell? ⟨g8, 0, none⟩ = some (.int .i64 0) := hk910.cell (own_cell HO89.out (j := 0) rfl) id
  have m1 : w10.cell? ⟨g8, 1, none⟩ = some (.int .i64 2) := hk910.cell (own_cell HO89.out (j := 1) rfl) id
  have m2 : w10.cell? ⟨g8, 2, none⟩ = some (.int .i64 2) := hk910.cell (own_cell HO89.out (j := 2) rfl) id
  have m3 : w10.cell? ⟨g8, 3, none⟩ = some (.int .i64 2) := hk910.cell (own_cell HO89.out (j := 3) rfl) id
  have m4 : w10.cell? ⟨g8, 4, none⟩ = some (.int .i64 2) := hk910.cell (own_cell HO89.out (j := 4) rfl) id
  have m5 : w10.cell? ⟨g8, 5, none⟩ = some (.int .i64 60) := hk910.cell (own_cell HO89.out (j := 5) rfl) id
  have m6 : w10.cell? ⟨g8, 6, none⟩ = some (.int .i64 4) := hk910.cell (own_cell HO89.out (j := 6) rfl) id
  have m7 : w10.cell? ⟨g8, 7, none⟩ = some (.int .i64 7) := hk910.cell (own_cell HO89.out (j := 7) rfl) id
  have m8 : w10.cell? ⟨g8, 8, none⟩ = some (.int .i64 0) := hk910.cell (own_cell HO89.out (j := 8) rfl) id
  have m9 : w10.cell? ⟨g8, 9, none⟩ = some (.int .i64 0) := hk910.cell (own_cell HO89.out (j := 9) rfl) id
  have m10 : w10.cell? ⟨g8, 10, none⟩ = some (.string ⟨#[]⟩) := hk910.cell (own_cell HO89.out (j := 10) rfl) id
  obtain ⟨b, o, hbo, _, hat⟩ := RdW.at_ (i := 1) (v := x2) (R1.out.no HK10.out) rfl
  cases hbo
  obtain ⟨a0, a1, a2, a3, a4', a5, a6', a7, a8, a9, a10⟩ := hat
  simp only [x2] at a0 a1 a2 a3 a4' a5 a6' a7 a8 a9 a10
  have hwe : ∀ w', (Op.equalIn 10000 41 (.agg #[.int .i64 0, .int .i64 2, .int .i64 2, .int .i64 2, .int .i64 2, .int .i64 60, .int .i64 4, .int .i64 7, .int .i64 0, .int .i64 0, .string ⟨#[]⟩]) (.agg #[.int .i64 0, .int .i64 2, .int .i64 2, .int .i64 2, .int .i64 2, .int .i64 60, .int .i64 4, .int .i64 7, .int .i64 0, .int .i64 0, .string ⟨#[]⟩])).run Try.prog w' = .ok true w' := fun w' => by
    have := work_equal w' x2 x2
    rw [show eqW x2 x2 = true by kernel_rfl] at this
    exact this
  clear hN hkz hk9a hk910 hbx hbx10
  go_wp2_with fail
  go_quiet (fail)
  have hkq : Kp No w10 (w10.drewN nq) := Kp.drewN _ _ _
  generalize w10.drewN nq = w11 at hkq ⊢
  have HK11 := Lib.hid (HK10.out.tr hkq)
  have R511 := Lib.hid (R510.out.no hkq)
  clear hkq n1 n2 q0 q1 q2 m0 m1 m2 m3 m4 m5 m6 m7 m8 m9 m10 a0 a1 a2 a3 a4' a5 a6' a7 a8 a9 a10 hwe
  go_wp2_with fail
  have hD := Differ_any (some ⟨g1, 0, none⟩) 2 c1 [x1, x2] (some ⟨g2, 0, none⟩) 2 c2 [x1, x3] w11 (R1.out.no HK11.out) (R2.out.no HK11.out) fits_ex1 fits_ex2
  rw [both_ex] at hD
  refine hD.mono ?_
  rintro e w12 ⟨v12, out, rfl, hdf, ho12, hkd⟩
  obtain rfl := dif_ex hdf
  obtain ⟨a12, c12, rfl, _, _, hA12⟩ := own_form ho12
  obtain ⟨g12, rfl⟩ := hA12 (by decide)
  have HO12 := Lib.hid ho12
  have HK12 := Lib.hid (HK11.out.tr hkd)
  have R512 := Lib.hid (R511.out.no hkd)
  clear hD hdf ho12 hA12 hkd
  go_wp2_with fail
  refine (lpipe_any _).mono ?_
  rintro e w13 ⟨rfl, hk13⟩
  go_wp2_with fail
  change Calls _ _ #[_, ep (2, 60)] _ _
  have hH := History_any (some ⟨g5, 0, none⟩) 3 c5 [x1, x2, x3] (2, 60) w13 (R512.out.no hk13) fits_ex
  rw [hisE_ex, his_ex] at hH
  refine hH.mono ?_
  rintro e w14 ⟨v14, rfl, ho14, hk134⟩
  obtain ⟨a14, c14, rfl, _, _, hA14⟩ := own_form ho14
  obtain ⟨g14, rfl⟩ := hA14 (by decide)
  have HX14 := Lib.hid (RdI.of_own ho14)
  have HK24 := Lib.hid (hk13.tr hk134)
  clear hH ho14 hA14 hk134 hk13
  go_wp2_with fail
  refine (lpipe_any _).mono ?_
  rintro e w15 ⟨rfl, hk145⟩
  go_wp2_with fail
  refine (lpipe_any _).mono ?_
  rintro e w16 ⟨rfl, hk156⟩
  have HK46 := Lib.hid (hk145.tr hk156)
  clear hk145 hk156
  go_wp2_with fail
  have hka : Kp No w16 (w16.alloc (.cells ([y1, y2].flatMap Wk.cells).toArray 41)) := Kp.alloc _ _ _
  have hoa := own_made (e := 41) (s := 11) (n := 2) (xs := [y1, y2].flatMap Wk.cells) w16 rfl (Nat.le_refl _) (by decide)
  change Calls _ _ _ (w16.alloc (.cells ([y1, y2].flatMap Wk.cells).toArray 41)) _
  generalize w16.alloc (.cells ([y1, y2].flatMap Wk.cells).toArray 41) = w17 at hka hoa ⊢
  have hF := Faults_any _ 2 2 [y1, y2] w17 (Rd.of_own wk_len (by omega) hoa) fits_y
  rw [chk_y, fau_ex] at hF
  refine hF.mono ?_
  rintro e w18 ⟨v18, rfl, ho18, hk178⟩
  obtain ⟨a18, c18, rfl, _, _, hA18⟩ := own_form ho18
  obtain ⟨g18, rfl⟩ := hA18 (by decide)
  have HX18 := Lib.hid (RdI.of_own ho18)
  have HK48 := Lib.hid ((HK46.out.tr hka).tr hk178)
  have HX148 := Lib.hid (HX14.out.no HK48.out)
  have HK28 := Lib.hid (HK24.out.tr HK48.out)
  have d0 : w18.cell? ⟨g12, 0, none⟩ = some (.int .i64 2) := HK28.out.cell (own_cell HO12.out (j := 0) rfl) id
  have d1 : w18.cell? ⟨g12, 1, none⟩ = some (.int .i64 60) := HK28.out.cell (own_cell HO12.out (j := 1) rfl) id
  have HK18 := Lib.hid ((HK2.out.tr HK12.out).tr HK28.out)
  have hpe := fun w' => pipe_equal w' 2 60 2 60
  clear hF ho18 hA18 hk178 hka hoa
  go_wp2_with fail
  have FS : Stab (fun ix wz u => (ix = 24 → IsI [0, 1, 2] wz u) ∧ (ix = 29 → IsI [1] wz u) ∧ True) := fun ix u wz wz' kz h => ⟨fun e => IsI.no (h.1 e) kz, fun e => IsI.no (h.2.1 e) kz, trivial⟩
  replace FS := Lib.hid FS
  refine wp_region_each (fun ix uR => match ix with | 0 => uR = .int .i64 0 | 1 => uR = .bool true | 2 => uR = .bool true | 3 => uR = .int .i64 0 | 4 => uR = .bool true | 5 => uR = .bool true | 6 => uR = .bool true | 7 => uR = .int .i64 0 | 8 => uR = .bool true | 9 => uR = .bool true | 10 => uR = .bool true | 11 => uR = .slice (some ⟨g12, 0, none⟩) 1 c12 | 12 => uR = .int .i64 1 | 13 => uR = .bool true | 14 => uR = .bool true | 15 => uR = .bool true | 16 => uR = .slice (some ⟨g12, 0, none⟩) 1 c12 | 17 => uR = .pointer (some ⟨g12, 0, none⟩) | 18 => uR = .agg #[.int .i64 2, .int .i64 60] | 19 => uR = .agg #[.int .i64 2, .int .i64 60] | 20 => uR = .bool true | 21 => uR = .bool true | 22 => uR = .bool true | 23 => uR = .slice (some ⟨g14, 0, none⟩) 3 c14 | 25 => uR = .bool true | 26 => uR = .bool true | 27 => uR = .bool true | 28 => uR = .slice (some ⟨g18, 0, none⟩) 1 c18 | 30 => uR = .bool true | 31 => uR = .bool true | 32 => uR = .bool true | 33 => uR = .bool true | 34 => uR = .bool true | 35 => uR = .bool true | _ => True) (HvW w18 (fun ix wz u => (ix = 24 → IsI [0, 1, 2] wz u) ∧ (ix = 29 → IsI [1] wz u) ∧ True)) (by kernel_rfl) (by kernel_rfl) (by kernel_rfl) ?_ ?_ ?_
  · exact HvW.start _ _
  · refine ⟨?_, ?_, ?_, ?_, ?_, ?_, ?_, ?_, ?_, ?_, ?_, ?_, ?_, ?_, ?_, ?_, ?_, ?_, ?_, ?_, ?_, ?_, ?_, ?_, ?_, ?_, ?_, ?_, ?_, ?_, ?_, ?_, ?_, ?_, ?_, ?_, trivial⟩
    · intro r a w' hf hg hW hr hd K hK
      refine wpOp_of rfl rfl ?_
      have e0 : a.tmps.getD 4 undef = .int .i64 0 := hf.evalFree (by kernel_rfl)
      go_simp
      exact hK _ _ rfl (hW.upd 0 _ ⟨fun e => absurd e (by decide), fun e => absurd e (by decide), trivial⟩)
    · intro r a w' hf hg hW hr hd K hK
      refine wpOp_of rfl rfl ?_
      refine hf.depE hg hd 0 198 (by kernel_rfl) fun u0 e0 g0 h0 => ?_
      replace g0 : u0 = .int .i64 0 := g0
      subst g0
      go_simp
      exact hK _ _ rfl (hW.upd 1 _ ⟨fun e => absurd e (by decide), fun e => absurd e (by decide), trivial⟩)
    · intro r a w' hf hg hW hr hd K hK
      refine wpOp_of rfl rfl ?_
      refine hf.depE hg hd 1 199 (by kernel_rfl) fun u0 e0 g0 h0 => ?_
      replace g0 : u0 = .bool true := g0
      subst g0
      go_simp
      exact hK _ _ rfl (hW.upd 2 _ ⟨fun e => absurd e (by decide), fun e => absurd e (by decide), trivial⟩)
    · intro r a w' hf hg hW hr hd K hK
      refine hf.depE hg hd 2 200 (by kernel_rfl) fun uG eG gG _ => ?_
      replace gG : uG = .bool true := gG
      subst gG
      refine wpOp_run rfl rfl rfl rfl eG ?_
      have e0 : a.tmps.getD 6 undef = .int .i64 0 := hf.evalFree (by kernel_rfl)
      go_simp
      exact hK _ _ rfl (hW.upd 3 _ ⟨fun e => absurd e (by decide), fun e => absurd e (by decide), trivial⟩)
    · intro r a w' hf hg hW hr hd K hK
      refine hf.depE hg hd 2 200 (by kernel_rfl) fun uG eG gG _ => ?_
      replace gG : uG = .bool true := gG
      subst gG
      refine wpOp_run rfl rfl rfl rfl eG ?_
      refine hf.depE hg hd 3 201 (by kernel_rfl) fun u0 e0 g0 h0 => ?_
      replace g0 : u0 = .int .i64 0 := g0
      subst g0
      go_simp
      exact hK _ _ rfl (hW.upd 4 _ ⟨fun e => absurd e (by decide), fun e => absurd e (by decide), trivial⟩)
    · intro r a w' hf hg hW hr hd K hK
      refine wpOp_of rfl rfl ?_
      refine hf.depE hg hd 2 200 (by kernel_rfl) fun u0 e0 g0 h0 => ?_
      replace g0 : u0 = .bool true := g0
      subst g0
      have e0' := get_of_getD e0
      refine hf.depE hg hd 4 202 (by kernel_rfl) fun u1 e1 g1 h1 => ?_
      replace g1 : u1 = .bool true := g1
      subst g1
      have e1' := get_of_getD e1
      go_simp
      exact hK _ _ rfl (hW.upd 5 _ ⟨fun e => absurd e (by decide), fun e => absurd e (by decide), trivial⟩)
    · intro r a w' hf hg hW hr hd K hK
      refine wpOp_of rfl rfl ?_
      refine hf.depE hg hd 5 203 (by kernel_rfl) fun u0 e0 g0 h0 => ?_
      replace g0 : u0 = .bool true := g0
      subst g0
      go_simp
      exact hK _ _ rfl (hW.upd 6 _ ⟨fun e => absurd e (by decide), fun e => absurd e (by decide), trivial⟩)
    · intro r a w' hf hg hW hr hd K hK
      refine hf.depE hg hd 6 204 (by kernel_rfl) fun uG eG gG _ => ?_
      replace gG : uG = .bool true := gG
      subst gG
      refine wpOp_run rfl rfl rfl rfl eG ?_
      have e0 : a.tmps.getD 8 undef = .int .i64 0 := hf.evalFree (by kernel_rfl)
      go_simp
      exact hK _ _ rfl (hW.upd 7 _ ⟨fun e => absurd e (by decide), fun e => absurd e (by decide), trivial⟩)
    · intro r a w' hf hg hW hr hd K hK
      refine hf.depE hg hd 6 204 (by kernel_rfl) fun uG eG gG _ => ?_
      replace gG : uG = .bool true := gG
      subst gG
      refine wpOp_run rfl rfl rfl rfl eG ?_
      refine hf.depE hg hd 7 205 (by kernel_rfl) fun u0 e0 g0 h0 => ?_
      replace g0 : u0 = .int .i64 0 := g0
      subst g0
      go_simp
      exact hK _ _ rfl (hW.upd 8 _ ⟨fun e => absurd e (by decide), fun e => absurd e (by decide), trivial⟩)
    · intro r a w' hf hg hW hr hd K hK
      refine wpOp_of rfl rfl ?_
      refine hf.depE hg hd 6 204 (by kernel_rfl) fun u0 e0 g0 h0 => ?_
      replace g0 : u0 = .bool true := g0
      subst g0
      have e0' := get_of_getD e0
      refine hf.depE hg hd 8 206 (by kernel_rfl) fun u1 e1 g1 h1 => ?_
      replace g1 : u1 = .bool true := g1
      subst g1
      have e1' := get_of_getD e1
      go_simp
      exact hK _ _ rfl (hW.upd 9 _ ⟨fun e => absurd e (by decide), fun e => absurd e (by decide), trivial⟩)
    · intro r a w' hf hg hW hr hd K hK
      refine wpOp_of rfl rfl ?_
      refine hf.depE hg hd 9 207 (by kernel_rfl) fun u0 e0 g0 h0 => ?_
      replace g0 : u0 = .bool true := g0
      subst g0
      go_simp
      exact hK _ _ rfl (hW.upd 10 _ ⟨fun e => absurd e (by decide), fun e => absurd e (by decide), trivial⟩)
    · intro r a w' hf hg hW hr hd K hK
      refine hf.depE hg hd 10 208 (by kernel_rfl) fun uG eG gG _ => ?_
      replace gG : uG = .bool true := gG
      subst gG
      refine wpOp_run rfl rfl rfl rfl eG ?_
      have e0 : a.tmps.getD 14 undef = .slice (some ⟨g12, 0, none⟩) 1 c12 := hf.evalFree (by kernel_rfl)
      go_simp
      exact hK _ _ rfl (hW.upd 11 _ ⟨fun e => absurd e (by decide), fun e => absurd e (by decide), trivial⟩)
    · intro r a w' hf hg hW hr hd K hK
      refine hf.depE hg hd 10 208 (by kernel_rfl) fun uG eG gG _ => ?_
      replace gG : uG = .bool true := gG
      subst gG
      refine wpOp_run rfl rfl rfl rfl eG ?_
      refine hf.depE hg hd 11 209 (by kernel_rfl) fun u0 e0 g0 h0 => ?_
      replace g0 : u0 = .slice (some ⟨g12, 0, none⟩) 1 c12 := g0
      subst g0
      go_simp
      exact hK _ _ rfl (hW.upd 12 _ ⟨fun e => absurd e (by decide), fun e => absurd e (by decide), trivial⟩)
    · intro r a w' hf hg hW hr hd K hK
      refine hf.depE hg hd 10 208 (by kernel_rfl) fun uG eG gG _ => ?_
      replace gG : uG = .bool true := gG
      subst gG
      refine wpOp_run rfl rfl rfl rfl eG ?_
      refine hf.depE hg hd 12 210 (by kernel_rfl) fun u0 e0 g0 h0 => ?_
      replace g0 : u0 = .int .i64 1 := g0
      subst g0
      go_simp
      exact hK _ _ rfl (hW.upd 13 _ ⟨fun e => absurd e (by decide), fun e => absurd e (by decide), trivial⟩)
    · intro r a w' hf hg hW hr hd K hK
      refine wpOp_of rfl rfl ?_
      refine hf.depE hg hd 10 208 (by kernel_rfl) fun u0 e0 g0 h0 => ?_
      replace g0 : u0 = .bool true := g0
      subst g0
      have e0' := get_of_getD e0
      refine hf.depE hg hd 13 211 (by kernel_rfl) fun u1 e1 g1 h1 => ?_
      replace g1 : u1 = .bool true := g1
      subst g1
      have e1' := get_of_getD e1
      go_simp
      exact hK _ _ rfl (hW.upd 14 _ ⟨fun e => absurd e (by decide), fun e => absurd e (by decide), trivial⟩)
    · intro r a w' hf hg hW hr hd K hK
      refine wpOp_of rfl rfl ?_
      refine hf.depE hg hd 14 212 (by kernel_rfl) fun u0 e0 g0 h0 => ?_
      replace g0 : u0 = .bool true := g0
      subst g0
      go_simp
      exact hK _ _ rfl (hW.upd 15 _ ⟨fun e => absurd e (by decide), fun e => absurd e (by decide), trivial⟩)
    · intro r a w' hf hg hW hr hd K hK
      refine hf.depE hg hd 15 213 (by kernel_rfl) fun uG eG gG _ => ?_
      replace gG : uG = .bool true := gG
      subst gG
      refine wpOp_run rfl rfl rfl rfl eG ?_
      have e0 : a.tmps.getD 14 undef = .slice (some ⟨g12, 0, none⟩) 1 c12 := hf.evalFree (by kernel_rfl)
      go_simp
      exact hK _ _ rfl (hW.upd 16 _ ⟨fun e => absurd e (by decide), fun e => absurd e (by decide), trivial⟩)
    · intro r a w' hf hg hW hr hd K hK
      refine hf.depE hg hd 15 213 (by kernel_rfl) fun uG eG gG _ => ?_
      replace gG : uG = .bool true := gG
      subst gG
      refine wpOp_run rfl rfl rfl rfl eG ?_
      refine hf.depE hg hd 16 214 (by kernel_rfl) fun u0 e0 g0 h0 => ?_
      replace g0 : u0 = .slice (some ⟨g12, 0, none⟩) 1 c12 := g0
      subst g0
      go_simp
      exact hK _ _ rfl (hW.upd 17 _ ⟨fun e => absurd e (by decide), fun e => absurd e (by decide), trivial⟩)
    · intro r a w' hf hg hW hr hd K hK
      refine hf.depE hg hd 15 213 (by kernel_rfl) fun uG eG gG _ => ?_
      replace gG : uG = .bool true := gG
      subst gG
      refine wpOp_run rfl rfl rfl rfl eG ?_
      refine hf.depE hg hd 17 215 (by kernel_rfl) fun u0 e0 g0 h0 => ?_
      replace g0 : u0 = .pointer (some ⟨g12, 0, none⟩) := g0
      subst g0
      have z0 := hW.kp.cell d0 id
      have z1 := hW.kp.cell d1 id
      go_simp
      exact hK _ _ rfl (hW.upd 18 _ ⟨fun e => absurd e (by decide), fun e => absurd e (by decide), trivial⟩)
    · intro r a w' hf hg hW hr hd K hK
      refine hf.depE hg hd 15 213 (by kernel_rfl) fun uG eG gG _ => ?_
      replace gG : uG = .bool true := gG
      subst gG
      refine wpOp_run rfl rfl rfl rfl eG ?_
      go_simp
      refine (lpipe_any w').mono ?_
      rintro e w'' ⟨rfl, k'⟩
      exact hK _ _ rfl ((hW.call FS.out k').upd 19 _ ⟨fun e => absurd e (by decide), fun e => absurd e (by decide), trivial⟩)
    · intro r a w' hf hg hW hr hd K hK
      refine hf.depE hg hd 15 213 (by kernel_rfl) fun uG eG gG _ => ?_
      replace gG : uG = .bool true := gG
      subst gG
      refine wpOp_run rfl rfl rfl rfl eG ?_
      refine hf.depE hg hd 18 216 (by kernel_rfl) fun u0 e0 g0 h0 => ?_
      replace g0 : u0 = .agg #[.int .i64 2, .int .i64 60] := g0
      subst g0
      refine hf.depE hg hd 19 217 (by kernel_rfl) fun u1 e1 g1 h1 => ?_
      replace g1 : u1 = .agg #[.int .i64 2, .int .i64 60] := g1
      subst g1
      go_simp
      exact hK _ _ rfl (hW.upd 20 _ ⟨fun e => absurd e (by decide), fun e => absurd e (by decide), trivial⟩)
    · intro r a w' hf hg hW hr hd K hK
      refine wpOp_of rfl rfl ?_
      refine hf.depE hg hd 15 213 (by kernel_rfl) fun u0 e0 g0 h0 => ?_
      replace g0 : u0 = .bool true := g0
      subst g0
      have e0' := get_of_getD e0
      refine hf.depE hg hd 20 218 (by kernel_rfl) fun u1 e1 g1 h1 => ?_
      replace g1 : u1 = .bool true := g1
      subst g1
      have e1' := get_of_getD e1
      go_simp
      exact hK _ _ rfl (hW.upd 21 _ ⟨fun e => absurd e (by decide), fun e => absurd e (by decide), trivial⟩)
    · intro r a w' hf hg hW hr hd K hK
      refine wpOp_of rfl rfl ?_
      refine hf.depE hg hd 21 219 (by kernel_rfl) fun u0 e0 g0 h0 => ?_
      replace g0 : u0 = .bool true := g0
      subst g0
      go_simp
      exact hK _ _ rfl (hW.upd 22 _ ⟨fun e => absurd e (by decide), fun e => absurd e (by decide), trivial⟩)
    · intro r a w' hf hg hW hr hd K hK
      refine hf.depE hg hd 22 220 (by kernel_rfl) fun uG eG gG _ => ?_
      replace gG : uG = .bool true := gG
      subst gG
      refine wpOp_run rfl rfl rfl rfl eG ?_
      have e0 : a.tmps.getD 15 undef = .slice (some ⟨g14, 0, none⟩) 3 c14 := hf.evalFree (by kernel_rfl)
      go_simp
      exact hK _ _ rfl (hW.upd 23 _ ⟨fun e => absurd e (by decide), fun e => absurd e (by decide), trivial⟩)
    · intro r a w' hf hg hW hr hd K hK
      refine hf.depE hg hd 22 220 (by kernel_rfl) fun uG eG gG _ => ?_
      replace gG : uG = .bool true := gG
      subst gG
      refine wpOp_run rfl rfl rfl rfl eG ?_
      go_simp
      exact hK _ _ trivial ((hW.call FS.out (Kp.alloc _ _ _)).upd 24 _ ⟨fun _ => IsI.made [0, 1, 2] _ (by decide), fun e => absurd e (by decide), trivial⟩)
    · intro r a w' hf hg hW hr hd K hK
      refine hf.depE hg hd 22 220 (by kernel_rfl) fun uG eG gG _ => ?_
      replace gG : uG = .bool true := gG
      subst gG
      refine wpOp_run rfl rfl rfl rfl eG ?_
      refine hf.depE hg hd 23 221 (by kernel_rfl) fun u0 e0 g0 h0 => ?_
      replace g0 : u0 = .slice (some ⟨g14, 0, none⟩) 3 c14 := g0
      subst g0
      refine hf.depE hg hd 24 222 (by kernel_rfl) fun u1 e1 g1 h1 => ?_
      have f1 := (hW.hv 24 u1 h1).1 rfl
      obtain ⟨gz, rfl, hz⟩ := f1
      go_simp
      refine (sameI_any _ _ _ _ _ _ [0, 1, 2] [0, 1, 2] w' (HX148.out.no hW.kp) hz (by decide)).mono ?_
      rintro e w'' ⟨rfl, k'⟩
      exact hK _ _ (by simp) ((hW.call FS.out k').upd 25 _ ⟨fun e => absurd e (by decide), fun e => absurd e (by decide), trivial⟩)
    · intro r a w' hf hg hW hr hd K hK
      refine wpOp_of rfl rfl ?_
      refine hf.depE hg hd 22 220 (by kernel_rfl) fun u0 e0 g0 h0 => ?_
      replace g0 : u0 = .bool true := g0
      subst g0
      have e0' := get_of_getD e0
      refine hf.depE hg hd 25 223 (by kernel_rfl) fun u1 e1 g1 h1 => ?_
      replace g1 : u1 = .bool true := g1
      subst g1
      have e1' := get_of_getD e1
      go_simp
      exact hK _ _ rfl (hW.upd 26 _ ⟨fun e => absurd e (by decide), fun e => absurd e (by decide), trivial⟩)
    · intro r a w' hf hg hW hr hd K hK
      refine wpOp_of rfl rfl ?_
      refine hf.depE hg hd 26 224 (by kernel_rfl) fun u0 e0 g0 h0 => ?_
      replace g0 : u0 = .bool true := g0
      subst g0
      go_simp
      exact hK _ _ rfl (hW.upd 27 _ ⟨fun e => absurd e (by decide), fun e => absurd e (by decide), trivial⟩)
    · intro r a w' hf hg hW hr hd K hK
      refine hf.depE hg hd 27 225 (by kernel_rfl) fun uG eG gG _ => ?_
      replace gG : uG = .bool true := gG
      subst gG
      refine wpOp_run rfl rfl rfl rfl eG ?_
      have e0 : a.tmps.getD 16 undef = .slice (some ⟨g18, 0, none⟩) 1 c18 := hf.evalFree (by kernel_rfl)
      go_simp
      exact hK _ _ rfl (hW.upd 28 _ ⟨fun e => absurd e (by decide), fun e => absurd e (by decide), trivial⟩)
    · intro r a w' hf hg hW hr hd K hK
      refine hf.depE hg hd 27 225 (by kernel_rfl) fun uG eG gG _ => ?_
      replace gG : uG = .bool true := gG
      subst gG
      refine wpOp_run rfl rfl rfl rfl eG ?_
      go_simp
      exact hK _ _ trivial ((hW.call FS.out (Kp.alloc _ _ _)).upd 29 _ ⟨fun e => absurd e (by decide), fun _ => IsI.made [1] _ (by decide), trivial⟩)
    · intro r a w' hf hg hW hr hd K hK
      refine hf.depE hg hd 27 225 (by kernel_rfl) fun uG eG gG _ => ?_
      replace gG : uG = .bool true := gG
      subst gG
      refine wpOp_run rfl rfl rfl rfl eG ?_
      refine hf.depE hg hd 28 226 (by kernel_rfl) fun u0 e0 g0 h0 => ?_
      replace g0 : u0 = .slice (some ⟨g18, 0, none⟩) 1 c18 := g0
      subst g0
      refine hf.depE hg hd 29 227 (by kernel_rfl) fun u1 e1 g1 h1 => ?_
      have f1 := (hW.hv 29 u1 h1).2.1 rfl
      obtain ⟨gz, rfl, hz⟩ := f1
      go_simp
      refine (sameI_any _ _ _ _ _ _ [1] [1] w' (HX18.out.no hW.kp) hz (by decide)).mono ?_
      rintro e w'' ⟨rfl, k'⟩
      exact hK _ _ (by simp) ((hW.call FS.out k').upd 30 _ ⟨fun e => absurd e (by decide), fun e => absurd e (by decide), trivial⟩)
    · intro r a w' hf hg hW hr hd K hK
      refine wpOp_of rfl rfl ?_
      refine hf.depE hg hd 27 225 (by kernel_rfl) fun u0 e0 g0 h0 => ?_
      replace g0 : u0 = .bool true := g0
      subst g0
      have e0' := get_of_getD e0
      refine hf.depE hg hd 30 228 (by kernel_rfl) fun u1 e1 g1 h1 => ?_
      replace g1 : u1 = .bool true := g1
      subst g1
      have e1' := get_of_getD e1
      go_simp
      exact hK _ _ rfl (hW.upd 31 _ ⟨fun e => absurd e (by decide), fun e => absurd e (by decide), trivial⟩)
    · intro r a w' hf hg hW hr hd K hK
      refine wpOp_of rfl rfl ?_
      refine hf.depE hg hd 31 229 (by kernel_rfl) fun u0 e0 g0 h0 => ?_
      replace g0 : u0 = .bool true := g0
      subst g0
      go_simp
      exact hK _ _ rfl (hW.upd 32 _ ⟨fun e => absurd e (by decide), fun e => absurd e (by decide), trivial⟩)
    · intro r a w' hf hg hW hr hd K hK
      refine hf.depE hg hd 32 230 (by kernel_rfl) fun uG eG gG _ => ?_
      replace gG : uG = .bool true := gG
      subst gG
      refine wpOp_run rfl rfl rfl rfl eG ?_
      go_simp
      refine (awake_any w').mono ?_
      rintro e w'' ⟨rfl, k'⟩
      exact hK _ _ rfl ((hW.call FS.out k').upd 33 _ ⟨fun e => absurd e (by decide), fun e => absurd e (by decide), trivial⟩)
    · intro r a w' hf hg hW hr hd K hK
      refine wpOp_of rfl rfl ?_
      refine hf.depE hg hd 32 230 (by kernel_rfl) fun u0 e0 g0 h0 => ?_
      replace g0 : u0 = .bool true := g0
      subst g0
      have e0' := get_of_getD e0
      refine hf.depE hg hd 33 231 (by kernel_rfl) fun u1 e1 g1 h1 => ?_
      replace g1 : u1 = .bool true := g1
      subst g1
      have e1' := get_of_getD e1
      go_simp
      exact hK _ _ rfl (hW.upd 34 _ ⟨fun e => absurd e (by decide), fun e => absurd e (by decide), trivial⟩)
    · intro r a w' hf hg hW hr hd K hK
      refine wpOp_of rfl rfl ?_
      refine hf.depE hg hd 34 232 (by kernel_rfl) fun u0 e0 g0 h0 => ?_
      replace g0 : u0 = .bool true := g0
      subst g0
      go_simp
      exact hK _ _ rfl (hW.upd 35 _ ⟨fun e => absurd e (by decide), fun e => absurd e (by decide), trivial⟩)
  intro r' w19 hg hW hr'
  have hkN := hW.kp
  obtain ⟨q35, hq35⟩ : ∃ u, r' 35 = some u := Option.ne_none_iff_exists'.1 (hr' 35 (by decide))
  have hk35 := hg 35 q35 hq35
  replace hk35 : q35 = .bool true := hk35
  subst hk35
  simp only [List.length_cons, List.length_nil, Nat.reduceAdd, List.range_succ, List.range_zero, List.nil_append, List.cons_append, List.map_cons, List.map_nil, putAll, Act.put, List.setIfInBounds_toArray, List.set_cons_succ, List.set_cons_zero, hq35, Option.getD_some]
  clear hg hW hr' FS hq35
  go_wp2_with fail
  go_ret
  exact ⟨rfl, HK18.out.tr hkN⟩
end Go.Proofs.Ytjbpdimepckmfaa
