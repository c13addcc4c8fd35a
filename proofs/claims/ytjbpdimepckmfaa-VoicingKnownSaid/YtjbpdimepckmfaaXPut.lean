/- Chapter 27: the reference's put: the walk. Printed by gen_put.py. -/
import Derived.Test.YtjbpdimepckmfaaXNxtPM
import Derived.Test.YtjbpdimepckmfaaXRchAM
import Derived.Test.YtjbpdimepckmfaaXClnM
import Derived.Test.YtjbpdimepckmfaaXLibHwM
import Derived.Test.YtjbpdimepckmfaaXLibClrM
namespace Go.Proofs.Ytjbpdimepckmfaa
open Go.RowKit Go.Kq

set_option maxHeartbeats 4000000 in
set_option maxRecDepth 100000 in
theorem rput_any (A : Option Addr) (n ca : Nat) (l : List Wk) (x : Wk) (w : World) (hx : RdW w A n l) (hn : n ≤ 1000) (hA : A = none → n = 0 ∧ ca = 0) :
    Calls Try.prog 64 #[.slice A n ca, x.val] w fun e w' => ∃ v' l', e = .returned v' ∧ w'.ownsRow w.heap.size 41 11 v' (n + 1) (l'.flatMap Wk.cells) ∧ PutR l x l' ∧ Kp No w w' := by
  have HSl := Lib.hid hx.1
  obtain ⟨i0, hi0, hz0, hz1, hz2⟩ := info_parts info41
  have HCEL := Lib.hid (show (.cells #[.int .i64 x.wk, .int .i64 x.num, .int .i64 x.ck, .int .i64 x.kd, .int .i64 x.rk, .int .i64 x.nt, .int .i64 x.fd, .int .i64 x.vl, .int .i64 x.ow, .int .i64 x.on, .string x.tx] 41 : Obj) = .cells x.cells.toArray 41 from rfl)
  have HX := Lib.hid hx
  have HA := Lib.hid hA
  simp only [Wk.val]
  clear hx hA
  go_enter Try.func64, Try.ntmps64
  go_wp2_with fail
  rw [HCEL.out]
  have hk1 : Kp No w (w.alloc (.cells x.cells.toArray 41)) := Kp.alloc _ _ _
  have hb1 : BoxW (w.alloc (.cells x.cells.toArray 41)) w.heap.size x := heap_alloc_new _ _
  generalize w.alloc (.cells x.cells.toArray 41) = w1 at hk1 hb1 ⊢
  obtain ⟨g1, hg1⟩ : ∃ g1, g1 = w.heap.size := ⟨_, rfl⟩
  rw [← hg1] at hb1 ⊢
  have HRX := Lib.hid (HX.out.no hk1)
  obtain ⟨t0, t1, t2, t3, t4, t5, t6, t7, t8, t9, t10⟩ := hb1.at_
  simp only [Nat.zero_add] at t1 t2 t3 t4 t5 t6 t7 t8 t9 t10
  have HG1 := Lib.hid hg1
  clear hb1 HCEL HX hg1
  refine wp_region_each (fun ix uR => match ix with | 1 => uR = .slice A n ca | 3 => uR = Wk.val x | _ => True) (Ap2 w1 41 11 n (l.flatMap Wk.cells) (Wk.cells x)) (by kernel_rfl) (by kernel_rfl) (by kernel_rfl) ?_ ?_ ?_
  · exact Ap2.start _ _ _ _ _ _
  · refine ⟨?_, ?_, ?_, ?_, ?_, ?_, ?_, trivial⟩
    · intro r a w' hf hg hW hr hd K hK
      refine wpOp_of rfl rfl ?_
      go_simp
      exact hK _ _ trivial (hW.lay0 hr)
    · intro r a w' hf hg hW hr hd K hK
      refine wpOp_of rfl rfl ?_
      have e0 : a.tmps.getD 0 undef = .slice A n ca := hf.evalFree (by kernel_rfl)
      go_simp
      exact hK _ _ rfl (hW.upd 1 _ (by decide) (by decide) (by decide) (by decide) (by decide))
    · intro r a w' hf hg hW hr hd K hK
      refine wpOp_of rfl rfl ?_
      refine hf.depE hg hd 0 7 (by kernel_rfl) fun u0 e0 _ h0 => ?_
      refine hf.depE hg hd 1 8 (by kernel_rfl) fun u1 e1 g1 _ => ?_
      replace g1 : u1 = .slice A n ca := g1
      subst g1
      exact wpo_append_nil (.tmp 7) (.tmp 8) 22 rfl w1.heap.size 41 i0 (Wk.val default) 11 96 Try.underlying22 hi0 hz0 hz1 hz2 rfl (by decide) u0 0 [] e0 (hW.c0 u0 h0 hr) A n ca (l.flatMap Wk.cells) e1 (by rw [flat_len wk_len, HSl.out]) HA.out (rd_news (Rd.no HRX.out hW.kp)) (wk_one _) (by unfold maxLen; omega) (by omega) hW.kp.size (fun v' w'' ho hgr hat => hK _ _ trivial (hW.app2 hr h0 ho hgr hat))
    · intro r a w' hf hg hW hr hd K hK
      refine wpOp_of rfl rfl ?_
      have e0 : a.tmps.getD 3 undef = .pointer (some ⟨g1, 0, none⟩) := hf.evalFree (by kernel_rfl)
      have z0 := hW.kp.cell t0 id
      have z1 := hW.kp.cell t1 id
      have z2 := hW.kp.cell t2 id
      have z3 := hW.kp.cell t3 id
      have z4 := hW.kp.cell t4 id
      have z5 := hW.kp.cell t5 id
      have z6 := hW.kp.cell t6 id
      have z7 := hW.kp.cell t7 id
      have z8 := hW.kp.cell t8 id
      have z9 := hW.kp.cell t9 id
      have z10 := hW.kp.cell t10 id
      go_simp
      exact hK _ _ rfl (hW.upd 3 _ (by decide) (by decide) (by decide) (by decide) (by decide))
    · intro r a w' hf hg hW hr hd K hK
      refine wpOp_of rfl rfl ?_
      refine hf.depE hg hd 3 10 (by kernel_rfl) fun u0 e0 g0 _ => ?_
      replace g0 : u0 = Wk.val x := g0
      subst g0
      have e0' := get_of_getD e0
      simp only [Wk.val] at e0 e0'
      go_simp
      exact hK _ _ trivial (hW.lay4 hr (by rw [wk_len]; unfold maxLen; omega) rfl)
    · intro r a w' hf hg hW hr hd K hK
      refine wpOp_of rfl rfl ?_
      refine hf.depE hg hd 2 9 (by kernel_rfl) fun u0 e0 _ h0 => ?_
      refine hf.depE hg hd 4 11 (by kernel_rfl) fun u1 e1 _ h1 => ?_
      obtain ⟨gg, hu1, _, hcc, _, _⟩ := hW.c4 u1 h1 hr
      subst hu1
      exact wpo_append (.tmp 9) (.tmp 11) 22 rfl w1.heap.size 41 i0 (Wk.val default) 11 96 Try.underlying22 hi0 hz0 hz1 hz2 rfl (by decide) u0 n (l.flatMap Wk.cells) e0 (hW.c2 u0 h0 hr) ⟨gg, 0, none⟩ 1 1 (Wk.cells x) e1 rfl (fun j x hj => by rw [add_at, Nat.zero_add]; exact hcc j x hj) (cells_oneP x) (by unfold maxLen; omega) (by omega) hW.kp.size (fun v' w'' ho hgr _ => hK _ _ trivial (hW.app5 hr h0 (by rw [h1]; simp) ho hgr))
    · intro r a w' hf hg hW hr hd K hK
      refine wpOp_of rfl rfl ?_
      refine hf.depE hg hd 5 12 (by kernel_rfl) fun u0 e0 _ h0 => ?_
      go_simp
      exact hK _ _ trivial (hW.upd6 h0)
  intro r' w7 hg hW hr'
  obtain ⟨vR, hvR, hoR, hkR, hq6⟩ := hW.fin (hr' 5 (by decide))
  obtain ⟨q6, hqq⟩ : ∃ u, r' 6 = some u := Option.ne_none_iff_exists'.1 (hr' 6 (by decide))
  obtain rfl := hq6 q6 hqq
  simp only [List.length_cons, List.length_nil, Nat.reduceAdd, List.range_succ, List.range_zero, List.nil_append, List.cons_append, List.map_cons, List.map_nil, putAll, Act.put, List.setIfInBounds_toArray, List.set_cons_succ, List.set_cons_zero, hqq, Option.getD_some]
  clear hg hW hr' hq6 hvR hqq
  have hk7 := hk1.tr hkR
  have hO : w7.ownsRow w.heap.size 41 11 q6 (n + 1) ((l ++ x :: []).flatMap Wk.cells) := by
    rw [flat_snoc]
    exact own_mono hoR hk1.size
  obtain ⟨a7, cc, rfl, hc7, _, hg7⟩ := own_form hO
  obtain ⟨g, rfl⟩ := hg7 (by omega)
  have HNO := Lib.hid (fun (k : Nat) (hk : k < w.heap.size) (e : Kq.One g k) => (show False by have e : k = g := e; have := (own_ge hO (g := g) rfl).1; omega))
  have HOL7 := Lib.hid hO
  clear hO hoR hkR hg7 HRX HA t0 t1 t2 t3 t4 t5 t6 t7 t8 t9 t10
  go_wp2_with fail
  go_loopw [6] (fun vk wr => ∃ (A B : List Wk), vk = .int .i64 A.length ∧ l = A ++ B ∧ (∀ b ∈ B, ltW x b = true) ∧ wr.ownsRow w.heap.size 41 11 (.slice (some ⟨g, 0, none⟩) (n + 1) cc) (n + 1) ((A ++ x :: B).flatMap Wk.cells) ∧ Kp No w wr) (fun vk _ => (intOf vk).toNat)
  case atStart => exact ⟨l, [], by rw [HSl.out], by simp, by simp, HOL7.out, hk7⟩
  case round =>
    obtain ⟨A, B, rfl, hAB, hB, hrow, hkq⟩ := hrel
    have HAB := Lib.hid hAB
    have HB := Lib.hid hB
    have HR := Lib.hid hrow
    clear hAB hB hrow
    have hAl : A.length ≤ n := by have h1 := HSl.out; have h2 := congrArg List.length HAB.out; rw [List.length_append] at h2; omega
    have HLL := Lib.hid (show (A ++ x :: B).length = n + 1 by have h1 := HSl.out; have h2 := congrArg List.length HAB.out; rw [List.length_append] at h2 ⊢; rw [List.length_cons]; omega)
    obtain ⟨k, hk⟩ : ∃ k, k = A.length := ⟨_, rfl⟩
    rw [← hk]
    have hki : k ≤ n := by omega
    have HK := Lib.hid hk
    clear hk hAl
    rcases Nat.eq_zero_or_pos k with h0 | h0
    · subst h0
      have hA0 : A = [] := List.length_eq_zero_iff.1 HK.out.symm
      have hd0 : decide ((0 : Int) < ((0 : Nat) : Int)) = false := rfl
      have HE := Lib.hid (put_R HAB.out HB.out (fun _ a ha => by rw [hA0] at ha; cases ha))
      clear hA0
      go_wp2_with fail
      go_quiet (fail)
      have HRq := Lib.hid ((Kp.drewN No wr nq).owns HR.out (fun _ _ h => h))
      have hkq1 := hkq.tr (Kp.drewN No wr nq)
      clear hd0
      generalize wr.drewN nq = wq at HRq hkq1 ⊢
      go_wp2_with fail
      go_ret
      exact ⟨_, _, rfl, HRq.out, HE.out, hkq1⟩
    · obtain ⟨p, rfl⟩ : ∃ p, k = p + 1 := ⟨k - 1, by omega⟩
      obtain ⟨A', aa, hAA⟩ : ∃ A' aa, A = A' ++ [aa] := by
        rcases List.eq_nil_or_concat A with h | ⟨A', a, h⟩
        · have := HK.out
          rw [h] at this
          simp at this
        · exact ⟨A', a, by rw [h, List.concat_eq_append]⟩
      have HAA := Lib.hid hAA
      have HAL := Lib.hid (show A'.length = p by have h := HK.out; rw [hAA, List.length_append] at h; simp at h; omega)
      clear hAA
      rw [show ((p + 1 : Nat) : Int) = (p : Int) + 1 from by omega]
      have hd0 : decide ((0 : Int) < (p : Int) + 1) = true := decide_eq_true (by omega)
      have HAJ := Lib.hid (put_at0 HAA.out HAL.out (x := x) (B := B))
      have HXJ := Lib.hid (put_at1 HAA.out HAL.out (x := x) (B := B))
      have HSW := Lib.hid (put_swap HAA.out HAL.out (x := x) (B := B))
      have HLN := Lib.hid (show p < (A ++ x :: B).length by rw [HLL.out]; omega)
      have HLN1 := Lib.hid (show p + 1 < (A ++ x :: B).length by rw [HLL.out]; omega)
      obtain ⟨d0, d1, d2, d3, d4, d5, d6, d7, d8, d9, d10⟩ := WkAt.of (row_at wk_len HR.out (by decide) HAJ.out)
      obtain ⟨c0, c1, c2, c3, c4, c5, c6, c7, c8, c9, c10⟩ := WkAt.of (row_at wk_len HR.out (by decide) HXJ.out)
      have hz0 : (0 : Int) ≤ (p : Int) + 1 := by omega
      have hz1 : (p : Int) + 1 < (n : Int) + 1 := by omega
      have hz2 : (p : Int) < (n : Int) + 1 := by omega
      have hz3 : p + 1 < n + 1 := by omega
      have hz4 : p < n + 1 := by omega
      have hwp : IntKind.i64.wrap (p : Int) = (p : Int) := IntWalk.i64_in _ (by omega)
      cases hlt : ltW x aa
      · have HLT := Lib.hid hlt
        have HE := Lib.hid (put_R2 HAB.out HB.out HAA.out hlt)
        clear hlt
        go_wp2_with fail
        have FS : Stab (fun ix wz u => True) := fun ix u wz wz' kz h => trivial
        replace FS := Lib.hid FS
        refine wp_region_each (fun ix uR => match ix with | 0 => uR = .int .i64 ((p : Int) + 1) | 1 => uR = .bool true | 2 => uR = .bool true | 3 => uR = .slice (some ⟨g, 0, none⟩) (n + 1) cc | 4 => uR = .int .i64 ((p : Int) + 1) | 5 => uR = .pointer (some ⟨g, (p + 1) * 11, none⟩) | 6 => uR = Wk.val x | 7 => uR = .slice (some ⟨g, 0, none⟩) (n + 1) cc | 8 => uR = .int .i64 ((p : Int) + 1) | 9 => uR = .int .i64 (p : Int) | 10 => uR = .pointer (some ⟨g, p * 11, none⟩) | 11 => uR = Wk.val aa | 12 => uR = .bool false | 13 => uR = .bool false | _ => True) (HvW wr (fun ix wz u => True)) (by kernel_rfl) (by kernel_rfl) (by kernel_rfl) ?_ ?_ ?_
        · exact HvW.start _ _
        · refine ⟨?_, ?_, ?_, ?_, ?_, ?_, ?_, ?_, ?_, ?_, ?_, ?_, ?_, ?_, trivial⟩
          · intro r a w' hf hg hW hr hd K hK
            refine wpOp_of rfl rfl ?_
            have e0 : a.tmps.getD 6 undef = .int .i64 ((p : Int) + 1) := hf.evalFree (by kernel_rfl)
            go_simp
            exact hK _ _ rfl (hW.upd 0 _ trivial)
          · intro r a w' hf hg hW hr hd K hK
            refine wpOp_of rfl rfl ?_
            refine hf.depE hg hd 0 16 (by kernel_rfl) fun u0 e0 g0 h0 => ?_
            replace g0 : u0 = .int .i64 ((p : Int) + 1) := g0
            subst g0
            have h00 := hd0
            go_simp
            exact hK _ _ rfl (hW.upd 1 _ trivial)
          · intro r a w' hf hg hW hr hd K hK
            refine wpOp_of rfl rfl ?_
            refine hf.depE hg hd 1 17 (by kernel_rfl) fun u0 e0 g0 h0 => ?_
            replace g0 : u0 = .bool true := g0
            subst g0
            go_simp
            exact hK _ _ rfl (hW.upd 2 _ trivial)
          · intro r a w' hf hg hW hr hd K hK
            refine hf.depE hg hd 2 18 (by kernel_rfl) fun uG eG gG _ => ?_
            replace gG : uG = .bool true := gG
            subst gG
            refine wpOp_run rfl rfl rfl rfl eG ?_
            have e0 : a.tmps.getD 5 undef = .slice (some ⟨g, 0, none⟩) (n + 1) cc := hf.evalFree (by kernel_rfl)
            go_simp
            exact hK _ _ rfl (hW.upd 3 _ trivial)
          · intro r a w' hf hg hW hr hd K hK
            refine hf.depE hg hd 2 18 (by kernel_rfl) fun uG eG gG _ => ?_
            replace gG : uG = .bool true := gG
            subst gG
            refine wpOp_run rfl rfl rfl rfl eG ?_
            have e0 : a.tmps.getD 6 undef = .int .i64 ((p : Int) + 1) := hf.evalFree (by kernel_rfl)
            go_simp
            exact hK _ _ rfl (hW.upd 4 _ trivial)
          · intro r a w' hf hg hW hr hd K hK
            refine hf.depE hg hd 2 18 (by kernel_rfl) fun uG eG gG _ => ?_
            replace gG : uG = .bool true := gG
            subst gG
            refine wpOp_run rfl rfl rfl rfl eG ?_
            refine hf.depE hg hd 3 19 (by kernel_rfl) fun u0 e0 g0 h0 => ?_
            replace g0 : u0 = .slice (some ⟨g, 0, none⟩) (n + 1) cc := g0
            subst g0
            refine hf.depE hg hd 4 20 (by kernel_rfl) fun u1 e1 g1 h1 => ?_
            replace g1 : u1 = .int .i64 ((p : Int) + 1) := g1
            subst g1
            go_simp
            exact hK _ _ rfl (hW.upd 5 _ trivial)
          · intro r a w' hf hg hW hr hd K hK
            refine hf.depE hg hd 2 18 (by kernel_rfl) fun uG eG gG _ => ?_
            replace gG : uG = .bool true := gG
            subst gG
            refine wpOp_run rfl rfl rfl rfl eG ?_
            refine hf.depE hg hd 5 21 (by kernel_rfl) fun u0 e0 g0 h0 => ?_
            replace g0 : u0 = .pointer (some ⟨g, (p + 1) * 11, none⟩) := g0
            subst g0
            have z0 := hW.kp.cell c0 id
            have z1 := hW.kp.cell c1 id
            have z2 := hW.kp.cell c2 id
            have z3 := hW.kp.cell c3 id
            have z4 := hW.kp.cell c4 id
            have z5 := hW.kp.cell c5 id
            have z6 := hW.kp.cell c6 id
            have z7 := hW.kp.cell c7 id
            have z8 := hW.kp.cell c8 id
            have z9 := hW.kp.cell c9 id
            have z10 := hW.kp.cell c10 id
            go_simp
            exact hK _ _ rfl (hW.upd 6 _ trivial)
          · intro r a w' hf hg hW hr hd K hK
            refine hf.depE hg hd 2 18 (by kernel_rfl) fun uG eG gG _ => ?_
            replace gG : uG = .bool true := gG
            subst gG
            refine wpOp_run rfl rfl rfl rfl eG ?_
            have e0 : a.tmps.getD 5 undef = .slice (some ⟨g, 0, none⟩) (n + 1) cc := hf.evalFree (by kernel_rfl)
            go_simp
            exact hK _ _ rfl (hW.upd 7 _ trivial)
          · intro r a w' hf hg hW hr hd K hK
            refine hf.depE hg hd 2 18 (by kernel_rfl) fun uG eG gG _ => ?_
            replace gG : uG = .bool true := gG
            subst gG
            refine wpOp_run rfl rfl rfl rfl eG ?_
            have e0 : a.tmps.getD 6 undef = .int .i64 ((p : Int) + 1) := hf.evalFree (by kernel_rfl)
            go_simp
            exact hK _ _ rfl (hW.upd 8 _ trivial)
          · intro r a w' hf hg hW hr hd K hK
            refine hf.depE hg hd 2 18 (by kernel_rfl) fun uG eG gG _ => ?_
            replace gG : uG = .bool true := gG
            subst gG
            refine wpOp_run rfl rfl rfl rfl eG ?_
            refine hf.depE hg hd 8 24 (by kernel_rfl) fun u0 e0 g0 h0 => ?_
            replace g0 : u0 = .int .i64 ((p : Int) + 1) := g0
            subst g0
            go_simp
            exact hK _ _ rfl (hW.upd 9 _ trivial)
          · intro r a w' hf hg hW hr hd K hK
            refine hf.depE hg hd 2 18 (by kernel_rfl) fun uG eG gG _ => ?_
            replace gG : uG = .bool true := gG
            subst gG
            refine wpOp_run rfl rfl rfl rfl eG ?_
            refine hf.depE hg hd 7 23 (by kernel_rfl) fun u0 e0 g0 h0 => ?_
            replace g0 : u0 = .slice (some ⟨g, 0, none⟩) (n + 1) cc := g0
            subst g0
            refine hf.depE hg hd 9 25 (by kernel_rfl) fun u1 e1 g1 h1 => ?_
            replace g1 : u1 = .int .i64 (p : Int) := g1
            subst g1
            go_simp
            exact hK _ _ rfl (hW.upd 10 _ trivial)
          · intro r a w' hf hg hW hr hd K hK
            refine hf.depE hg hd 2 18 (by kernel_rfl) fun uG eG gG _ => ?_
            replace gG : uG = .bool true := gG
            subst gG
            refine wpOp_run rfl rfl rfl rfl eG ?_
            refine hf.depE hg hd 10 26 (by kernel_rfl) fun u0 e0 g0 h0 => ?_
            replace g0 : u0 = .pointer (some ⟨g, p * 11, none⟩) := g0
            subst g0
            have z0 := hW.kp.cell d0 id
            have z1 := hW.kp.cell d1 id
            have z2 := hW.kp.cell d2 id
            have z3 := hW.kp.cell d3 id
            have z4 := hW.kp.cell d4 id
            have z5 := hW.kp.cell d5 id
            have z6 := hW.kp.cell d6 id
            have z7 := hW.kp.cell d7 id
            have z8 := hW.kp.cell d8 id
            have z9 := hW.kp.cell d9 id
            have z10 := hW.kp.cell d10 id
            go_simp
            exact hK _ _ rfl (hW.upd 11 _ trivial)
          · intro r a w' hf hg hW hr hd K hK
            refine hf.depE hg hd 2 18 (by kernel_rfl) fun uG eG gG _ => ?_
            replace gG : uG = .bool true := gG
            subst gG
            refine wpOp_run rfl rfl rfl rfl eG ?_
            refine hf.depE hg hd 6 22 (by kernel_rfl) fun u0 e0 g0 h0 => ?_
            replace g0 : u0 = Wk.val x := g0
            subst g0
            refine hf.depE hg hd 11 27 (by kernel_rfl) fun u1 e1 g1 h1 => ?_
            replace g1 : u1 = Wk.val aa := g1
            subst g1
            go_simp
            refine (rbefore_any x aa w').mono ?_
            rw [HLT.out]
            rintro e w'' ⟨rfl, k'⟩
            exact hK _ _ rfl ((hW.call FS.out k').upd 12 _ trivial)
          · intro r a w' hf hg hW hr hd K hK
            refine wpOp_of rfl rfl ?_
            refine hf.depE hg hd 2 18 (by kernel_rfl) fun u0 e0 g0 h0 => ?_
            replace g0 : u0 = .bool true := g0
            subst g0
            have e0' := get_of_getD e0
            refine hf.depE hg hd 12 28 (by kernel_rfl) fun u1 e1 g1 h1 => ?_
            replace g1 : u1 = .bool false := g1
            subst g1
            have e1' := get_of_getD e1
            go_simp
            exact hK _ _ rfl (hW.upd 13 _ trivial)
        intro r' wq hg hW hr'
        have hkN := hW.kp
        obtain ⟨q13, hq13⟩ : ∃ u, r' 13 = some u := Option.ne_none_iff_exists'.1 (hr' 13 (by decide))
        have hk13 := hg 13 q13 hq13
        replace hk13 : q13 = .bool false := hk13
        subst hk13
        simp only [List.length_cons, List.length_nil, Nat.reduceAdd, List.range_succ, List.range_zero, List.nil_append, List.cons_append, List.map_cons, List.map_nil, putAll, Act.put, List.setIfInBounds_toArray, List.set_cons_succ, List.set_cons_zero, hq13, Option.getD_some]
        clear hg hW hr' FS hq13
        have HRq := Lib.hid (hkN.owns HR.out (fun _ _ h => h))
        have hkq1 := hkq.tr hkN
        clear c0 c1 c2 c3 c4 c5 c6 c7 c8 c9 c10 d0 d1 d2 d3 d4 d5 d6 d7 d8 d9 d10 hd0
        go_wp2_with fail
        go_ret
        exact ⟨_, _, rfl, HRq.out, HE.out, hkq1⟩
      · have HLT := Lib.hid hlt
        have HB' := Lib.hid (show ∀ b ∈ aa :: B, ltW x b = true from fun b hb => by rcases List.mem_cons.1 hb with rfl | hb; exact hlt; exact HB.out b hb)
        clear hlt
        go_wp2_with fail
        have FS : Stab (fun ix wz u => True) := fun ix u wz wz' kz h => trivial
        replace FS := Lib.hid FS
        refine wp_region_each (fun ix uR => match ix with | 0 => uR = .int .i64 ((p : Int) + 1) | 1 => uR = .bool true | 2 => uR = .bool true | 3 => uR = .slice (some ⟨g, 0, none⟩) (n + 1) cc | 4 => uR = .int .i64 ((p : Int) + 1) | 5 => uR = .pointer (some ⟨g, (p + 1) * 11, none⟩) | 6 => uR = Wk.val x | 7 => uR = .slice (some ⟨g, 0, none⟩) (n + 1) cc | 8 => uR = .int .i64 ((p : Int) + 1) | 9 => uR = .int .i64 (p : Int) | 10 => uR = .pointer (some ⟨g, p * 11, none⟩) | 11 => uR = Wk.val aa | 12 => uR = .bool true | 13 => uR = .bool true | _ => True) (HvW wr (fun ix wz u => True)) (by kernel_rfl) (by kernel_rfl) (by kernel_rfl) ?_ ?_ ?_
        · exact HvW.start _ _
        · refine ⟨?_, ?_, ?_, ?_, ?_, ?_, ?_, ?_, ?_, ?_, ?_, ?_, ?_, ?_, trivial⟩
          · intro r a w' hf hg hW hr hd K hK
            refine wpOp_of rfl rfl ?_
            have e0 : a.tmps.getD 6 undef = .int .i64 ((p : Int) + 1) := hf.evalFree (by kernel_rfl)
            go_simp
            exact hK _ _ rfl (hW.upd 0 _ trivial)
          · intro r a w' hf hg hW hr hd K hK
            refine wpOp_of rfl rfl ?_
            refine hf.depE hg hd 0 16 (by kernel_rfl) fun u0 e0 g0 h0 => ?_
            replace g0 : u0 = .int .i64 ((p : Int) + 1) := g0
            subst g0
            have h00 := hd0
            go_simp
            exact hK _ _ rfl (hW.upd 1 _ trivial)
          · intro r a w' hf hg hW hr hd K hK
            refine wpOp_of rfl rfl ?_
            refine hf.depE hg hd 1 17 (by kernel_rfl) fun u0 e0 g0 h0 => ?_
            replace g0 : u0 = .bool true := g0
            subst g0
            go_simp
            exact hK _ _ rfl (hW.upd 2 _ trivial)
          · intro r a w' hf hg hW hr hd K hK
            refine hf.depE hg hd 2 18 (by kernel_rfl) fun uG eG gG _ => ?_
            replace gG : uG = .bool true := gG
            subst gG
            refine wpOp_run rfl rfl rfl rfl eG ?_
            have e0 : a.tmps.getD 5 undef = .slice (some ⟨g, 0, none⟩) (n + 1) cc := hf.evalFree (by kernel_rfl)
            go_simp
            exact hK _ _ rfl (hW.upd 3 _ trivial)
          · intro r a w' hf hg hW hr hd K hK
            refine hf.depE hg hd 2 18 (by kernel_rfl) fun uG eG gG _ => ?_
            replace gG : uG = .bool true := gG
            subst gG
            refine wpOp_run rfl rfl rfl rfl eG ?_
            have e0 : a.tmps.getD 6 undef = .int .i64 ((p : Int) + 1) := hf.evalFree (by kernel_rfl)
            go_simp
            exact hK _ _ rfl (hW.upd 4 _ trivial)
          · intro r a w' hf hg hW hr hd K hK
            refine hf.depE hg hd 2 18 (by kernel_rfl) fun uG eG gG _ => ?_
            replace gG : uG = .bool true := gG
            subst gG
            refine wpOp_run rfl rfl rfl rfl eG ?_
            refine hf.depE hg hd 3 19 (by kernel_rfl) fun u0 e0 g0 h0 => ?_
            replace g0 : u0 = .slice (some ⟨g, 0, none⟩) (n + 1) cc := g0
            subst g0
            refine hf.depE hg hd 4 20 (by kernel_rfl) fun u1 e1 g1 h1 => ?_
            replace g1 : u1 = .int .i64 ((p : Int) + 1) := g1
            subst g1
            go_simp
            exact hK _ _ rfl (hW.upd 5 _ trivial)
          · intro r a w' hf hg hW hr hd K hK
            refine hf.depE hg hd 2 18 (by kernel_rfl) fun uG eG gG _ => ?_
            replace gG : uG = .bool true := gG
            subst gG
            refine wpOp_run rfl rfl rfl rfl eG ?_
            refine hf.depE hg hd 5 21 (by kernel_rfl) fun u0 e0 g0 h0 => ?_
            replace g0 : u0 = .pointer (some ⟨g, (p + 1) * 11, none⟩) := g0
            subst g0
            have z0 := hW.kp.cell c0 id
            have z1 := hW.kp.cell c1 id
            have z2 := hW.kp.cell c2 id
            have z3 := hW.kp.cell c3 id
            have z4 := hW.kp.cell c4 id
            have z5 := hW.kp.cell c5 id
            have z6 := hW.kp.cell c6 id
            have z7 := hW.kp.cell c7 id
            have z8 := hW.kp.cell c8 id
            have z9 := hW.kp.cell c9 id
            have z10 := hW.kp.cell c10 id
            go_simp
            exact hK _ _ rfl (hW.upd 6 _ trivial)
          · intro r a w' hf hg hW hr hd K hK
            refine hf.depE hg hd 2 18 (by kernel_rfl) fun uG eG gG _ => ?_
            replace gG : uG = .bool true := gG
            subst gG
            refine wpOp_run rfl rfl rfl rfl eG ?_
            have e0 : a.tmps.getD 5 undef = .slice (some ⟨g, 0, none⟩) (n + 1) cc := hf.evalFree (by kernel_rfl)
            go_simp
            exact hK _ _ rfl (hW.upd 7 _ trivial)
          · intro r a w' hf hg hW hr hd K hK
            refine hf.depE hg hd 2 18 (by kernel_rfl) fun uG eG gG _ => ?_
            replace gG : uG = .bool true := gG
            subst gG
            refine wpOp_run rfl rfl rfl rfl eG ?_
            have e0 : a.tmps.getD 6 undef = .int .i64 ((p : Int) + 1) := hf.evalFree (by kernel_rfl)
            go_simp
            exact hK _ _ rfl (hW.upd 8 _ trivial)
          · intro r a w' hf hg hW hr hd K hK
            refine hf.depE hg hd 2 18 (by kernel_rfl) fun uG eG gG _ => ?_
            replace gG : uG = .bool true := gG
            subst gG
            refine wpOp_run rfl rfl rfl rfl eG ?_
            refine hf.depE hg hd 8 24 (by kernel_rfl) fun u0 e0 g0 h0 => ?_
            replace g0 : u0 = .int .i64 ((p : Int) + 1) := g0
            subst g0
            go_simp
            exact hK _ _ rfl (hW.upd 9 _ trivial)
          · intro r a w' hf hg hW hr hd K hK
            refine hf.depE hg hd 2 18 (by kernel_rfl) fun uG eG gG _ => ?_
            replace gG : uG = .bool true := gG
            subst gG
            refine wpOp_run rfl rfl rfl rfl eG ?_
            refine hf.depE hg hd 7 23 (by kernel_rfl) fun u0 e0 g0 h0 => ?_
            replace g0 : u0 = .slice (some ⟨g, 0, none⟩) (n + 1) cc := g0
            subst g0
            refine hf.depE hg hd 9 25 (by kernel_rfl) fun u1 e1 g1 h1 => ?_
            replace g1 : u1 = .int .i64 (p : Int) := g1
            subst g1
            go_simp
            exact hK _ _ rfl (hW.upd 10 _ trivial)
          · intro r a w' hf hg hW hr hd K hK
            refine hf.depE hg hd 2 18 (by kernel_rfl) fun uG eG gG _ => ?_
            replace gG : uG = .bool true := gG
            subst gG
            refine wpOp_run rfl rfl rfl rfl eG ?_
            refine hf.depE hg hd 10 26 (by kernel_rfl) fun u0 e0 g0 h0 => ?_
            replace g0 : u0 = .pointer (some ⟨g, p * 11, none⟩) := g0
            subst g0
            have z0 := hW.kp.cell d0 id
            have z1 := hW.kp.cell d1 id
            have z2 := hW.kp.cell d2 id
            have z3 := hW.kp.cell d3 id
            have z4 := hW.kp.cell d4 id
            have z5 := hW.kp.cell d5 id
            have z6 := hW.kp.cell d6 id
            have z7 := hW.kp.cell d7 id
            have z8 := hW.kp.cell d8 id
            have z9 := hW.kp.cell d9 id
            have z10 := hW.kp.cell d10 id
            go_simp
            exact hK _ _ rfl (hW.upd 11 _ trivial)
          · intro r a w' hf hg hW hr hd K hK
            refine hf.depE hg hd 2 18 (by kernel_rfl) fun uG eG gG _ => ?_
            replace gG : uG = .bool true := gG
            subst gG
            refine wpOp_run rfl rfl rfl rfl eG ?_
            refine hf.depE hg hd 6 22 (by kernel_rfl) fun u0 e0 g0 h0 => ?_
            replace g0 : u0 = Wk.val x := g0
            subst g0
            refine hf.depE hg hd 11 27 (by kernel_rfl) fun u1 e1 g1 h1 => ?_
            replace g1 : u1 = Wk.val aa := g1
            subst g1
            go_simp
            refine (rbefore_any x aa w').mono ?_
            rw [HLT.out]
            rintro e w'' ⟨rfl, k'⟩
            exact hK _ _ rfl ((hW.call FS.out k').upd 12 _ trivial)
          · intro r a w' hf hg hW hr hd K hK
            refine wpOp_of rfl rfl ?_
            refine hf.depE hg hd 2 18 (by kernel_rfl) fun u0 e0 g0 h0 => ?_
            replace g0 : u0 = .bool true := g0
            subst g0
            have e0' := get_of_getD e0
            refine hf.depE hg hd 12 28 (by kernel_rfl) fun u1 e1 g1 h1 => ?_
            replace g1 : u1 = .bool true := g1
            subst g1
            have e1' := get_of_getD e1
            go_simp
            exact hK _ _ rfl (hW.upd 13 _ trivial)
        intro r' wq hg hW hr'
        have hkN := hW.kp
        obtain ⟨q13, hq13⟩ : ∃ u, r' 13 = some u := Option.ne_none_iff_exists'.1 (hr' 13 (by decide))
        have hk13 := hg 13 q13 hq13
        replace hk13 : q13 = .bool true := hk13
        subst hk13
        simp only [List.length_cons, List.length_nil, Nat.reduceAdd, List.range_succ, List.range_zero, List.nil_append, List.cons_append, List.map_cons, List.map_nil, putAll, Act.put, List.setIfInBounds_toArray, List.set_cons_succ, List.set_cons_zero, hq13, Option.getD_some]
        clear hg hW hr' FS hq13
        have HR' := Lib.hid (hkN.owns HR.out (fun _ _ h => h))
        have hkq1 := hkq.tr hkN
        clear c0 c1 c2 c3 c4 c5 c6 c7 c8 c9 c10 d0 d1 d2 d3 d4 d5 d6 d7 d8 d9 d10 hkN
        go_wp2_with fail
        refine wp_region_each (fun ix uR => match ix with | 0 => uR = .slice (some ⟨g, 0, none⟩) (n + 1) cc | 1 => uR = .int .i64 ((p : Int) + 1) | 2 => uR = .slice (some ⟨g, 0, none⟩) (n + 1) cc | 3 => uR = .int .i64 ((p : Int) + 1) | 4 => uR = .int .i64 (p : Int) | 5 => uR = .slice (some ⟨g, 0, none⟩) (n + 1) cc | 6 => uR = .int .i64 ((p : Int) + 1) | 7 => uR = .int .i64 (p : Int) | 8 => uR = .pointer (some ⟨g, p * 11, none⟩) | 9 => uR = Wk.val aa | 10 => uR = .slice (some ⟨g, 0, none⟩) (n + 1) cc | 11 => uR = .int .i64 ((p : Int) + 1) | 12 => uR = .pointer (some ⟨g, (p + 1) * 11, none⟩) | 13 => uR = Wk.val x | 14 => uR = .pointer (some ⟨g, (p + 1) * 11, none⟩) | 16 => uR = .pointer (some ⟨g, p * 11, none⟩) | _ => True)
          (SwK Wk.cells 11 wq g w.heap.size 41 (n + 1) cc (A ++ x :: B) (p + 1) p x aa 9 13 15 17) (by kernel_rfl) (by kernel_rfl) (by kernel_rfl) ?_ ?_ ?_
        · exact SwK.start HR'.out
        · refine ⟨?_, ?_, ?_, ?_, ?_, ?_, ?_, ?_, ?_, ?_, ?_, ?_, ?_, ?_, ?_, ?_, ?_, ?_, trivial⟩
          · intro r a w' hf hg hW hr hd K hK
            refine wpOp_of rfl rfl ?_
            have e0 : a.tmps.getD 5 undef = .slice (some ⟨g, 0, none⟩) (n + 1) cc := hf.evalFree (by kernel_rfl)
            go_simp
            exact hK _ _ rfl (hW.upd 0 _ (by decide) (by decide))
          · intro r a w' hf hg hW hr hd K hK
            refine wpOp_of rfl rfl ?_
            have e0 : a.tmps.getD 6 undef = .int .i64 ((p : Int) + 1) := hf.evalFree (by kernel_rfl)
            go_simp
            exact hK _ _ rfl (hW.upd 1 _ (by decide) (by decide))
          · intro r a w' hf hg hW hr hd K hK
            refine wpOp_of rfl rfl ?_
            have e0 : a.tmps.getD 5 undef = .slice (some ⟨g, 0, none⟩) (n + 1) cc := hf.evalFree (by kernel_rfl)
            go_simp
            exact hK _ _ rfl (hW.upd 2 _ (by decide) (by decide))
          · intro r a w' hf hg hW hr hd K hK
            refine wpOp_of rfl rfl ?_
            have e0 : a.tmps.getD 6 undef = .int .i64 ((p : Int) + 1) := hf.evalFree (by kernel_rfl)
            go_simp
            exact hK _ _ rfl (hW.upd 3 _ (by decide) (by decide))
          · intro r a w' hf hg hW hr hd K hK
            refine wpOp_of rfl rfl ?_
            refine hf.depE hg hd 3 35 (by kernel_rfl) fun u0 e0 g0 h0 => ?_
            replace g0 : u0 = .int .i64 ((p : Int) + 1) := g0
            subst g0
            go_simp
            exact hK _ _ rfl (hW.upd 4 _ (by decide) (by decide))
          · intro r a w' hf hg hW hr hd K hK
            refine wpOp_of rfl rfl ?_
            have e0 : a.tmps.getD 5 undef = .slice (some ⟨g, 0, none⟩) (n + 1) cc := hf.evalFree (by kernel_rfl)
            go_simp
            exact hK _ _ rfl (hW.upd 5 _ (by decide) (by decide))
          · intro r a w' hf hg hW hr hd K hK
            refine wpOp_of rfl rfl ?_
            have e0 : a.tmps.getD 6 undef = .int .i64 ((p : Int) + 1) := hf.evalFree (by kernel_rfl)
            go_simp
            exact hK _ _ rfl (hW.upd 6 _ (by decide) (by decide))
          · intro r a w' hf hg hW hr hd K hK
            refine wpOp_of rfl rfl ?_
            refine hf.depE hg hd 6 38 (by kernel_rfl) fun u0 e0 g0 h0 => ?_
            replace g0 : u0 = .int .i64 ((p : Int) + 1) := g0
            subst g0
            go_simp
            exact hK _ _ rfl (hW.upd 7 _ (by decide) (by decide))
          · intro r a w' hf hg hW hr hd K hK
            refine wpOp_of rfl rfl ?_
            refine hf.depE hg hd 5 37 (by kernel_rfl) fun u0 e0 g0 h0 => ?_
            replace g0 : u0 = .slice (some ⟨g, 0, none⟩) (n + 1) cc := g0
            subst g0
            refine hf.depE hg hd 7 39 (by kernel_rfl) fun u1 e1 g1 h1 => ?_
            replace g1 : u1 = .int .i64 (p : Int) := g1
            subst g1
            go_simp
            exact hK _ _ rfl (hW.upd 8 _ (by decide) (by decide))
          · intro r a w' hf hg hW hr hd K hK
            refine wpOp_of rfl rfl ?_
            refine hf.depE hg hd 8 40 (by kernel_rfl) fun u0 e0 g0 h0 => ?_
            replace g0 : u0 = .pointer (some ⟨g, p * 11, none⟩) := g0
            subst g0
            obtain ⟨y0, y1, y2, y3, y4, y5, y6, y7, y8, y9, y10⟩ := WkAt.of (hW.loadj wk_len (by decide) hr (by omega) HAJ.out)
            go_simp
            exact hK _ _ rfl (hW.upd 9 _ (by decide) (by decide))
          · intro r a w' hf hg hW hr hd K hK
            refine wpOp_of rfl rfl ?_
            have e0 : a.tmps.getD 5 undef = .slice (some ⟨g, 0, none⟩) (n + 1) cc := hf.evalFree (by kernel_rfl)
            go_simp
            exact hK _ _ rfl (hW.upd 10 _ (by decide) (by decide))
          · intro r a w' hf hg hW hr hd K hK
            refine wpOp_of rfl rfl ?_
            have e0 : a.tmps.getD 6 undef = .int .i64 ((p : Int) + 1) := hf.evalFree (by kernel_rfl)
            go_simp
            exact hK _ _ rfl (hW.upd 11 _ (by decide) (by decide))
          · intro r a w' hf hg hW hr hd K hK
            refine wpOp_of rfl rfl ?_
            refine hf.depE hg hd 10 42 (by kernel_rfl) fun u0 e0 g0 h0 => ?_
            replace g0 : u0 = .slice (some ⟨g, 0, none⟩) (n + 1) cc := g0
            subst g0
            refine hf.depE hg hd 11 43 (by kernel_rfl) fun u1 e1 g1 h1 => ?_
            replace g1 : u1 = .int .i64 ((p : Int) + 1) := g1
            subst g1
            go_simp
            exact hK _ _ rfl (hW.upd 12 _ (by decide) (by decide))
          · intro r a w' hf hg hW hr hd K hK
            refine wpOp_of rfl rfl ?_
            refine hf.depE hg hd 12 44 (by kernel_rfl) fun u0 e0 g0 h0 => ?_
            replace g0 : u0 = .pointer (some ⟨g, (p + 1) * 11, none⟩) := g0
            subst g0
            obtain ⟨y0, y1, y2, y3, y4, y5, y6, y7, y8, y9, y10⟩ := WkAt.of (hW.loadi wk_len (by decide) hr (by omega) HXJ.out)
            go_simp
            exact hK _ _ rfl (hW.upd 13 _ (by decide) (by decide))
          · intro r a w' hf hg hW hr hd K hK
            refine wpOp_of rfl rfl ?_
            refine hf.depE hg hd 0 32 (by kernel_rfl) fun u0 e0 g0 h0 => ?_
            replace g0 : u0 = .slice (some ⟨g, 0, none⟩) (n + 1) cc := g0
            subst g0
            refine hf.depE hg hd 1 33 (by kernel_rfl) fun u1 e1 g1 h1 => ?_
            replace g1 : u1 = .int .i64 ((p : Int) + 1) := g1
            subst g1
            go_simp
            exact hK _ _ rfl (hW.upd 14 _ (by decide) (by decide))
          · intro r a w' hf hg hW hr hd K hK
            refine wpOp_of rfl rfl ?_
            refine hf.depE hg hd 14 46 (by kernel_rfl) fun u0 e0 g0 h0 => ?_
            replace g0 : u0 = .pointer (some ⟨g, (p + 1) * 11, none⟩) := g0
            subst g0
            refine hf.depE hg hd 9 41 (by kernel_rfl) fun u1 e1 g1 h1 => ?_
            replace g1 : u1 = Wk.val aa := g1
            subst g1
            refine hf.depE hg hd 13 45 (by kernel_rfl) fun uo eo go ho => ?_
            obtain ⟨old, hold⟩ := hW.old wk_len (by decide) (k := (p + 1)) HLN1.out
            obtain ⟨y0, y1, y2, y3, y4, y5, y6, y7, y8, y9, y10⟩ := WkAt.of hold
            have fz := hW.free
            have f0 := fz ((p + 1) * 11)
            have f1 := fz ((p + 1) * 11 + 1)
            have f2 := fz ((p + 1) * 11 + 2)
            have f3 := fz ((p + 1) * 11 + 3)
            have f4 := fz ((p + 1) * 11 + 4)
            have f5 := fz ((p + 1) * 11 + 5)
            have f6 := fz ((p + 1) * 11 + 6)
            have f7 := fz ((p + 1) * 11 + 7)
            have f8 := fz ((p + 1) * 11 + 8)
            have f9 := fz ((p + 1) * 11 + 9)
            have f10 := fz ((p + 1) * 11 + 10)
            clear fz hold
            simp only [Wk.val] at e1 h1
            go_simp
            exact hK undef _ trivial (hW.sta wk_len hr (by rw [ho]; simp) (by decide) (by omega) HLN1.out undef)
          · intro r a w' hf hg hW hr hd K hK
            refine wpOp_of rfl rfl ?_
            refine hf.depE hg hd 2 34 (by kernel_rfl) fun u0 e0 g0 h0 => ?_
            replace g0 : u0 = .slice (some ⟨g, 0, none⟩) (n + 1) cc := g0
            subst g0
            refine hf.depE hg hd 4 36 (by kernel_rfl) fun u1 e1 g1 h1 => ?_
            replace g1 : u1 = .int .i64 (p : Int) := g1
            subst g1
            go_simp
            exact hK _ _ rfl (hW.upd 16 _ (by decide) (by decide))
          · intro r a w' hf hg hW hr hd K hK
            refine wpOp_of rfl rfl ?_
            refine hf.depE hg hd 16 47 (by kernel_rfl) fun u0 e0 g0 h0 => ?_
            replace g0 : u0 = .pointer (some ⟨g, p * 11, none⟩) := g0
            subst g0
            refine hf.depE hg hd 13 45 (by kernel_rfl) fun u1 e1 g1 h1 => ?_
            replace g1 : u1 = Wk.val x := g1
            subst g1
            refine hf.depE hg hd 9 41 (by kernel_rfl) fun uo eo go ho => ?_
            obtain ⟨old, hold⟩ := hW.old wk_len (by decide) (k := p) HLN.out
            obtain ⟨y0, y1, y2, y3, y4, y5, y6, y7, y8, y9, y10⟩ := WkAt.of hold
            have fz := hW.free
            have f0 := fz (p * 11)
            have f1 := fz (p * 11 + 1)
            have f2 := fz (p * 11 + 2)
            have f3 := fz (p * 11 + 3)
            have f4 := fz (p * 11 + 4)
            have f5 := fz (p * 11 + 5)
            have f6 := fz (p * 11 + 6)
            have f7 := fz (p * 11 + 7)
            have f8 := fz (p * 11 + 8)
            have f9 := fz (p * 11 + 9)
            have f10 := fz (p * 11 + 10)
            clear fz hold
            simp only [Wk.val] at e1 h1
            go_simp
            exact hK undef _ trivial (hW.stb wk_len hr (by rw [ho]; simp) (by decide) HLN.out undef)
        intro r' w9 hg hW hr'
        have ho9 := hW.fin (hr' 15 (by decide)) (hr' 17 (by decide))
        have hk9 := hkq1.trans hW.kp HNO.out
        rw [HSW.out] at ho9
        have HO9 := Lib.hid ho9
        clear hg hW hr' ho9
        simp only [List.length_cons, List.length_nil, Nat.reduceAdd, List.range_succ, List.range_zero, List.nil_append, List.cons_append, List.map_cons, List.map_nil, putAll, Act.put, List.setIfInBounds_toArray, List.set_cons_succ, List.set_cons_zero]
        go_wp2_with fail
        go_roundw
        case rel => exact ⟨A', aa :: B, by rw [HAL.out], by rw [HAB.out, HAA.out]; simp, HB'.out, HO9.out, hk9⟩
        case measure => simp [intOf]
end Go.Proofs.Ytjbpdimepckmfaa
