/- Chapter 09: the law of Judge and Least: the walk. Printed by gen_lju.py. -/
import Derived.Test.YtamjhpdgclbfgaaXJuR
import Derived.Test.YtamjhpdgclbfgaaXJuP
import Derived.Test.YtamjhpdgclbfgaaXAwk
namespace Go.Proofs.Ytamjhpdgclbfgaa
open Go.RowKit Go.Kq

set_option maxHeartbeats 8000000 in
set_option maxRecDepth 100000 in
theorem tjudges_any (P : Pt) (A B : Option Addr) (n m ca cb : Nat) (l : List Ct) (at_ : List Spo) (w : World) (hx : RdC w A n l) (hy : RdS w B m at_) (hcb : m ≤ cb) :
    Calls Try.prog 6 #[P.val, .slice A n ca, .slice B m cb] w fun e w' => e = .returned (.bool true) ∧ Kp No w w' := by
  unfold Pt.val
  obtain ⟨w1, hw1⟩ : ∃ w1, w.alloc (.cells #[.int .i64 P.w, .int .i64 P.h, .int .i64 P.k] 23) = w1 := ⟨_, rfl⟩
  obtain ⟨gp, hgp⟩ : ∃ g, w.heap.size = g := ⟨_, rfl⟩
  have k1 : Kp No w w1 := by rw [← hw1]; exact Kp.alloc _ _ _
  have A1 : w1.heap[gp]? = some (.cells #[.int .i64 P.w, .int .i64 P.h, .int .i64 P.k] 23 (0, 0)) := by rw [← hw1, ← hgp]; exact heap_alloc_new _ _
  have K1 := Lib.hid k1
  have H1 := Lib.hid A1
  obtain ⟨p0, p1, p2⟩ : w1.cell? ⟨gp, 0, none⟩ = some (.int .i64 P.w) ∧ w1.cell? ⟨gp, 1, none⟩ = some (.int .i64 P.h) ∧ w1.cell? ⟨gp, 2, none⟩ = some (.int .i64 P.k) := ⟨by rw [cell_of_row _ _ _ _ _ _ A1]; rfl, by rw [cell_of_row _ _ _ _ _ _ A1]; rfl, by rw [cell_of_row _ _ _ _ _ _ A1]; rfl⟩
  clear k1 A1
  have HX := Lib.hid hx
  have HY := Lib.hid hy
  clear hx hy
  by_cases hg : (40 < (n : Int) ∧ (n : Int) ≤ 200) ∨ 210 < (n : Int) ∨ 210 < (m : Int)
  · clear HX HY H1 p0 p1 p2
    have q1 : ∀ a b c : Bool, decide (40 < (n : Int)) = a → decide ((n : Int) ≤ 200) = b → decide (210 < (n : Int)) = c → (a && b || c || decide (210 < (m : Int))) = true := by
      intro a b c ha hb hc
      subst ha hb hc
      simp
      omega
    go_enter Try.func6, Try.ntmps6
    by_cases h1 : 40 < (n : Int)
    · by_cases h2 : (n : Int) ≤ 200
      · go_wp2_with fail
        clear hw1 hgp
        with_reducible refine (awake_any _).mono ?_
        rintro e w2 ⟨rfl, k2⟩
        have K2 := Lib.hid (K1.out.tr k2)
        clear k2 K1
        go_wp2_with fail
        go_ret
        exact ⟨rfl, K2.out⟩
      · by_cases h3 : 210 < (n : Int)
        · go_wp2_with fail
          clear hw1 hgp
          with_reducible refine (awake_any _).mono ?_
          rintro e w2 ⟨rfl, k2⟩
          have K2 := Lib.hid (K1.out.tr k2)
          clear k2 K1
          go_wp2_with fail
          go_ret
          exact ⟨rfl, K2.out⟩
        · have h4 : 210 < (m : Int) := by omega
          go_wp2_with fail
          clear hw1 hgp
          with_reducible refine (awake_any _).mono ?_
          rintro e w2 ⟨rfl, k2⟩
          have K2 := Lib.hid (K1.out.tr k2)
          clear k2 K1
          go_wp2_with fail
          go_ret
          exact ⟨rfl, K2.out⟩
    · have h3 : ¬ 210 < (n : Int) := by omega
      have h4 : 210 < (m : Int) := by omega
      go_wp2_with fail
      clear hw1 hgp
      with_reducible refine (awake_any _).mono ?_
      rintro e w2 ⟨rfl, k2⟩
      have K2 := Lib.hid (K1.out.tr k2)
      clear k2 K1
      go_wp2_with fail
      go_ret
      exact ⟨rfl, K2.out⟩
  have HL := Lib.hid (fun w0 (k : Kp No w w0) => Least_any P A n ca l w0 (HX.out.no k) (by omega))
  have HM := Lib.hid (fun w0 (k : Kp No w w0) => rLeast_any P A n ca l w0 (HX.out.no k) (by omega))
  have HJ := Lib.hid (fun w0 (k : Kp No w w0) => Judge_any P A B n m ca cb l at_ w0 (HX.out.no k) (HY.out.no k) (by omega) (by omega) hcb)
  have HR := Lib.hid (fun w0 (k : Kp No w w0) => rJudge_any P A B n m ca cb l at_ w0 (HX.out.no k) (HY.out.no k) (by omega) (by omega))
  unfold Pt.val at HL HM HJ HR
  generalize judV P l at_ = jv at *
  obtain ⟨⟨lv, le⟩, hle⟩ : ∃ x, lstV P l = x := ⟨_, rfl⟩
  rw [hle] at HL HM
  clear hle HX HY
  go_enter Try.func6, Try.ntmps6
  by_cases h1 : 40 < (n : Int)
  · have h2 : ¬ (n : Int) ≤ 200 := by omega
    have h3 : ¬ 210 < (n : Int) := by omega
    have h4 : ¬ 210 < (m : Int) := by omega
    clear hg
    go_wp2_with fail
    clear hw1 hgp
    with_reducible refine (HL.out _ K1.out).mono ?_
    rintro e w2 ⟨rfl, k2⟩
    have K2 := Lib.hid (K1.out.tr k2)
    have H2 := Lib.hid (k2.heap H1.out id)
    have b0 := k2.cell p0 id
    have b1 := k2.cell p1 id
    have b2 := k2.cell p2 id
    clear k2 K1 H1 p0 p1 p2 HL
    go_wp2_with fail
    with_reducible refine (HM.out _ K2.out).mono ?_
    rintro e w3 ⟨rfl, k3⟩
    have K3 := Lib.hid (K2.out.tr k3)
    have p0 := k3.cell b0 id
    have p1 := k3.cell b1 id
    have p2 := k3.cell b2 id
    clear k3 K2 H2 b0 b1 b2 HM
    go_wp2_with fail
    have FS : Stab (fun ix wz u => True) := fun ix u wz wz' kz h => trivial
    replace FS := Lib.hid FS
    refine wp_region_each (fun ix uR => match ix with | 0 => uR = .agg #[.int .i64 P.w, .int .i64 P.h, .int .i64 P.k] | 1 => uR = .slice A n ca | 2 => uR = .slice B m cb | 3 => uR = .int .i64 jv | 4 => uR = .agg #[.int .i64 P.w, .int .i64 P.h, .int .i64 P.k] | 5 => uR = .slice A n ca | 6 => uR = .slice B m cb | 7 => uR = .int .i64 jv | 8 => uR = .bool true | 9 => uR = .bool true | 10 => uR = .int .i64 lv | 11 => uR = .int .i64 lv | 12 => uR = .bool true | 13 => uR = .bool true | 14 => uR = .bool true | 15 => uR = .int .i64 le | 16 => uR = .int .i64 le | 17 => uR = .bool true | 18 => uR = .bool true | 19 => uR = .bool true | 20 => uR = .bool true | 21 => uR = .bool true | 22 => uR = .bool true | _ => True) (HvW w3 (fun ix wz u => True)) (by kernel_rfl) (by kernel_rfl) (by kernel_rfl) ?_ ?_ ?_
    · exact HvW.start _ _
    · refine ⟨?_, ?_, ?_, ?_, ?_, ?_, ?_, ?_, ?_, ?_, ?_, ?_, ?_, ?_, ?_, ?_, ?_, ?_, ?_, ?_, ?_, ?_, ?_, trivial⟩
      · intro r a w' hf hg hW hr hd K hK
        refine wpOp_of rfl rfl ?_
        have e0 : a.tmps.getD 3 undef = .pointer (some ⟨gp, 0, none⟩) := hf.evalFree (by kernel_rfl)
        have z0 := hW.kp.cell p0 id
        have z1 := hW.kp.cell p1 id
        have z2 := hW.kp.cell p2 id
        go_simp
        exact hK _ _ rfl (hW.upd 0 _ trivial)
      · intro r a w' hf hg hW hr hd K hK
        refine wpOp_of rfl rfl ?_
        have e0 : a.tmps.getD 1 undef = .slice A n ca := hf.evalFree (by kernel_rfl)
        go_simp
        exact hK _ _ rfl (hW.upd 1 _ trivial)
      · intro r a w' hf hg hW hr hd K hK
        refine wpOp_of rfl rfl ?_
        have e0 : a.tmps.getD 2 undef = .slice B m cb := hf.evalFree (by kernel_rfl)
        go_simp
        exact hK _ _ rfl (hW.upd 2 _ trivial)
      · intro r a w' hf hg hW hr hd K hK
        refine wpOp_of rfl rfl ?_
        refine hf.depE hg hd 0 42 (by kernel_rfl) fun u0 e0 g0 h0 => ?_
        replace g0 : u0 = .agg #[.int .i64 P.w, .int .i64 P.h, .int .i64 P.k] := g0
        subst g0
        refine hf.depE hg hd 1 43 (by kernel_rfl) fun u1 e1 g1 h1 => ?_
        replace g1 : u1 = .slice A n ca := g1
        subst g1
        refine hf.depE hg hd 2 44 (by kernel_rfl) fun u2 e2 g2 h2 => ?_
        replace g2 : u2 = .slice B m cb := g2
        subst g2
        go_simp
        with_reducible refine (HJ.out w' (K3.out.tr hW.kp)).mono ?_
        rintro e w'' ⟨rfl, k⟩
        exact hK _ _ rfl ((hW.call FS.out k).upd 3 _ trivial)
      · intro r a w' hf hg hW hr hd K hK
        refine wpOp_of rfl rfl ?_
        have e0 : a.tmps.getD 3 undef = .pointer (some ⟨gp, 0, none⟩) := hf.evalFree (by kernel_rfl)
        have z0 := hW.kp.cell p0 id
        have z1 := hW.kp.cell p1 id
        have z2 := hW.kp.cell p2 id
        go_simp
        exact hK _ _ rfl (hW.upd 4 _ trivial)
      · intro r a w' hf hg hW hr hd K hK
        refine wpOp_of rfl rfl ?_
        have e0 : a.tmps.getD 1 undef = .slice A n ca := hf.evalFree (by kernel_rfl)
        go_simp
        exact hK _ _ rfl (hW.upd 5 _ trivial)
      · intro r a w' hf hg hW hr hd K hK
        refine wpOp_of rfl rfl ?_
        have e0 : a.tmps.getD 2 undef = .slice B m cb := hf.evalFree (by kernel_rfl)
        go_simp
        exact hK _ _ rfl (hW.upd 6 _ trivial)
      · intro r a w' hf hg hW hr hd K hK
        refine wpOp_of rfl rfl ?_
        refine hf.depE hg hd 4 46 (by kernel_rfl) fun u0 e0 g0 h0 => ?_
        replace g0 : u0 = .agg #[.int .i64 P.w, .int .i64 P.h, .int .i64 P.k] := g0
        subst g0
        refine hf.depE hg hd 5 47 (by kernel_rfl) fun u1 e1 g1 h1 => ?_
        replace g1 : u1 = .slice A n ca := g1
        subst g1
        refine hf.depE hg hd 6 48 (by kernel_rfl) fun u2 e2 g2 h2 => ?_
        replace g2 : u2 = .slice B m cb := g2
        subst g2
        go_simp
        with_reducible refine (HR.out w' (K3.out.tr hW.kp)).mono ?_
        rintro e w'' ⟨rfl, k⟩
        exact hK _ _ rfl ((hW.call FS.out k).upd 7 _ trivial)
      · intro r a w' hf hg hW hr hd K hK
        refine wpOp_of rfl rfl ?_
        refine hf.depE hg hd 3 45 (by kernel_rfl) fun u0 e0 g0 h0 => ?_
        replace g0 : u0 = .int .i64 jv := g0
        subst g0
        refine hf.depE hg hd 7 49 (by kernel_rfl) fun u1 e1 g1 h1 => ?_
        replace g1 : u1 = .int .i64 jv := g1
        subst g1
        go_simp
        exact hK _ _ rfl (hW.upd 8 _ trivial)
      · intro r a w' hf hg hW hr hd K hK
        refine wpOp_of rfl rfl ?_
        refine hf.depE hg hd 8 50 (by kernel_rfl) fun u0 e0 g0 h0 => ?_
        replace g0 : u0 = .bool true := g0
        subst g0
        go_simp
        exact hK _ _ rfl (hW.upd 9 _ trivial)
      · intro r a w' hf hg hW hr hd K hK
        refine hf.depE hg hd 9 51 (by kernel_rfl) fun uG eG gG _ => ?_
        replace gG : uG = .bool true := gG
        subst gG
        refine wpOp_run rfl rfl rfl rfl eG ?_
        have e0 : a.tmps.getD 7 undef = .int .i64 lv := hf.evalFree (by kernel_rfl)
        go_simp
        exact hK _ _ rfl (hW.upd 10 _ trivial)
      · intro r a w' hf hg hW hr hd K hK
        refine hf.depE hg hd 9 51 (by kernel_rfl) fun uG eG gG _ => ?_
        replace gG : uG = .bool true := gG
        subst gG
        refine wpOp_run rfl rfl rfl rfl eG ?_
        have e0 : a.tmps.getD 9 undef = .int .i64 lv := hf.evalFree (by kernel_rfl)
        go_simp
        exact hK _ _ rfl (hW.upd 11 _ trivial)
      · intro r a w' hf hg hW hr hd K hK
        refine hf.depE hg hd 9 51 (by kernel_rfl) fun uG eG gG _ => ?_
        replace gG : uG = .bool true := gG
        subst gG
        refine wpOp_run rfl rfl rfl rfl eG ?_
        refine hf.depE hg hd 10 52 (by kernel_rfl) fun u0 e0 g0 h0 => ?_
        replace g0 : u0 = .int .i64 lv := g0
        subst g0
        refine hf.depE hg hd 11 53 (by kernel_rfl) fun u1 e1 g1 h1 => ?_
        replace g1 : u1 = .int .i64 lv := g1
        subst g1
        go_simp
        exact hK _ _ rfl (hW.upd 12 _ trivial)
      · intro r a w' hf hg hW hr hd K hK
        refine wpOp_of rfl rfl ?_
        refine hf.depE hg hd 9 51 (by kernel_rfl) fun u0 e0 g0 h0 => ?_
        replace g0 : u0 = .bool true := g0
        subst g0
        have e0' := get_of_getD e0
        refine hf.depE hg hd 12 54 (by kernel_rfl) fun u1 e1 g1 h1 => ?_
        replace g1 : u1 = .bool true := g1
        subst g1
        have e1' := get_of_getD e1
        go_simp
        exact hK _ _ rfl (hW.upd 13 _ trivial)
      · intro r a w' hf hg hW hr hd K hK
        refine wpOp_of rfl rfl ?_
        refine hf.depE hg hd 13 55 (by kernel_rfl) fun u0 e0 g0 h0 => ?_
        replace g0 : u0 = .bool true := g0
        subst g0
        go_simp
        exact hK _ _ rfl (hW.upd 14 _ trivial)
      · intro r a w' hf hg hW hr hd K hK
        refine hf.depE hg hd 14 56 (by kernel_rfl) fun uG eG gG _ => ?_
        replace gG : uG = .bool true := gG
        subst gG
        refine wpOp_run rfl rfl rfl rfl eG ?_
        have e0 : a.tmps.getD 8 undef = .int .i64 le := hf.evalFree (by kernel_rfl)
        go_simp
        exact hK _ _ rfl (hW.upd 15 _ trivial)
      · intro r a w' hf hg hW hr hd K hK
        refine hf.depE hg hd 14 56 (by kernel_rfl) fun uG eG gG _ => ?_
        replace gG : uG = .bool true := gG
        subst gG
        refine wpOp_run rfl rfl rfl rfl eG ?_
        have e0 : a.tmps.getD 10 undef = .int .i64 le := hf.evalFree (by kernel_rfl)
        go_simp
        exact hK _ _ rfl (hW.upd 16 _ trivial)
      · intro r a w' hf hg hW hr hd K hK
        refine hf.depE hg hd 14 56 (by kernel_rfl) fun uG eG gG _ => ?_
        replace gG : uG = .bool true := gG
        subst gG
        refine wpOp_run rfl rfl rfl rfl eG ?_
        refine hf.depE hg hd 15 57 (by kernel_rfl) fun u0 e0 g0 h0 => ?_
        replace g0 : u0 = .int .i64 le := g0
        subst g0
        refine hf.depE hg hd 16 58 (by kernel_rfl) fun u1 e1 g1 h1 => ?_
        replace g1 : u1 = .int .i64 le := g1
        subst g1
        go_simp
        exact hK _ _ rfl (hW.upd 17 _ trivial)
      · intro r a w' hf hg hW hr hd K hK
        refine wpOp_of rfl rfl ?_
        refine hf.depE hg hd 14 56 (by kernel_rfl) fun u0 e0 g0 h0 => ?_
        replace g0 : u0 = .bool true := g0
        subst g0
        have e0' := get_of_getD e0
        refine hf.depE hg hd 17 59 (by kernel_rfl) fun u1 e1 g1 h1 => ?_
        replace g1 : u1 = .bool true := g1
        subst g1
        have e1' := get_of_getD e1
        go_simp
        exact hK _ _ rfl (hW.upd 18 _ trivial)
      · intro r a w' hf hg hW hr hd K hK
        refine wpOp_of rfl rfl ?_
        refine hf.depE hg hd 18 60 (by kernel_rfl) fun u0 e0 g0 h0 => ?_
        replace g0 : u0 = .bool true := g0
        subst g0
        go_simp
        exact hK _ _ rfl (hW.upd 19 _ trivial)
      · intro r a w' hf hg hW hr hd K hK
        refine hf.depE hg hd 19 61 (by kernel_rfl) fun uG eG gG _ => ?_
        replace gG : uG = .bool true := gG
        subst gG
        refine wpOp_run rfl rfl rfl rfl eG ?_
        go_simp
        with_reducible refine (awake_any w').mono ?_
        rintro e w'' ⟨rfl, k⟩
        exact hK _ _ rfl ((hW.call FS.out k).upd 20 _ trivial)
      · intro r a w' hf hg hW hr hd K hK
        refine wpOp_of rfl rfl ?_
        refine hf.depE hg hd 19 61 (by kernel_rfl) fun u0 e0 g0 h0 => ?_
        replace g0 : u0 = .bool true := g0
        subst g0
        have e0' := get_of_getD e0
        refine hf.depE hg hd 20 62 (by kernel_rfl) fun u1 e1 g1 h1 => ?_
        replace g1 : u1 = .bool true := g1
        subst g1
        have e1' := get_of_getD e1
        go_simp
        exact hK _ _ rfl (hW.upd 21 _ trivial)
      · intro r a w' hf hg hW hr hd K hK
        refine wpOp_of rfl rfl ?_
        refine hf.depE hg hd 21 63 (by kernel_rfl) fun u0 e0 g0 h0 => ?_
        replace g0 : u0 = .bool true := g0
        subst g0
        go_simp
        exact hK _ _ rfl (hW.upd 22 _ trivial)
    intro r' w4 hg hW hr'
    have hkN := hW.kp
    obtain ⟨q22, hq22⟩ : ∃ u, r' 22 = some u := Option.ne_none_iff_exists'.1 (hr' 22 (by decide))
    have hk22 := hg 22 q22 hq22
    replace hk22 : q22 = .bool true := hk22
    subst hk22
    simp only [List.length_cons, List.length_nil, Nat.reduceAdd, List.range_succ, List.range_zero, List.nil_append, List.cons_append, List.map_cons, List.map_nil, putAll, Act.put, List.setIfInBounds_toArray, List.set_cons_succ, List.set_cons_zero, hq22, Option.getD_some]
    clear hg hW hr' FS hq22
    have K4 := Lib.hid (K3.out.tr hkN)
    clear hkN K3 p0 p1 p2 HJ HR
    go_wp2_with fail
    go_ret
    exact ⟨rfl, K4.out⟩
  · have h3 : ¬ 210 < (n : Int) := by omega
    have h4 : ¬ 210 < (m : Int) := by omega
    clear hg
    go_wp2_with fail
    clear hw1 hgp
    with_reducible refine (HL.out _ K1.out).mono ?_
    rintro e w2 ⟨rfl, k2⟩
    have K2 := Lib.hid (K1.out.tr k2)
    have H2 := Lib.hid (k2.heap H1.out id)
    have b0 := k2.cell p0 id
    have b1 := k2.cell p1 id
    have b2 := k2.cell p2 id
    clear k2 K1 H1 p0 p1 p2 HL
    go_wp2_with fail
    with_reducible refine (HM.out _ K2.out).mono ?_
    rintro e w3 ⟨rfl, k3⟩
    have K3 := Lib.hid (K2.out.tr k3)
    have p0 := k3.cell b0 id
    have p1 := k3.cell b1 id
    have p2 := k3.cell b2 id
    clear k3 K2 H2 b0 b1 b2 HM
    go_wp2_with fail
    have FS : Stab (fun ix wz u => True) := fun ix u wz wz' kz h => trivial
    replace FS := Lib.hid FS
    refine wp_region_each (fun ix uR => match ix with | 0 => uR = .agg #[.int .i64 P.w, .int .i64 P.h, .int .i64 P.k] | 1 => uR = .slice A n ca | 2 => uR = .slice B m cb | 3 => uR = .int .i64 jv | 4 => uR = .agg #[.int .i64 P.w, .int .i64 P.h, .int .i64 P.k] | 5 => uR = .slice A n ca | 6 => uR = .slice B m cb | 7 => uR = .int .i64 jv | 8 => uR = .bool true | 9 => uR = .bool true | 10 => uR = .int .i64 lv | 11 => uR = .int .i64 lv | 12 => uR = .bool true | 13 => uR = .bool true | 14 => uR = .bool true | 15 => uR = .int .i64 le | 16 => uR = .int .i64 le | 17 => uR = .bool true | 18 => uR = .bool true | 19 => uR = .bool true | 20 => uR = .bool true | 21 => uR = .bool true | 22 => uR = .bool true | _ => True) (HvW w3 (fun ix wz u => True)) (by kernel_rfl) (by kernel_rfl) (by kernel_rfl) ?_ ?_ ?_
    · exact HvW.start _ _
    · refine ⟨?_, ?_, ?_, ?_, ?_, ?_, ?_, ?_, ?_, ?_, ?_, ?_, ?_, ?_, ?_, ?_, ?_, ?_, ?_, ?_, ?_, ?_, ?_, trivial⟩
      · intro r a w' hf hg hW hr hd K hK
        refine wpOp_of rfl rfl ?_
        have e0 : a.tmps.getD 3 undef = .pointer (some ⟨gp, 0, none⟩) := hf.evalFree (by kernel_rfl)
        have z0 := hW.kp.cell p0 id
        have z1 := hW.kp.cell p1 id
        have z2 := hW.kp.cell p2 id
        go_simp
        exact hK _ _ rfl (hW.upd 0 _ trivial)
      · intro r a w' hf hg hW hr hd K hK
        refine wpOp_of rfl rfl ?_
        have e0 : a.tmps.getD 1 undef = .slice A n ca := hf.evalFree (by kernel_rfl)
        go_simp
        exact hK _ _ rfl (hW.upd 1 _ trivial)
      · intro r a w' hf hg hW hr hd K hK
        refine wpOp_of rfl rfl ?_
        have e0 : a.tmps.getD 2 undef = .slice B m cb := hf.evalFree (by kernel_rfl)
        go_simp
        exact hK _ _ rfl (hW.upd 2 _ trivial)
      · intro r a w' hf hg hW hr hd K hK
        refine wpOp_of rfl rfl ?_
        refine hf.depE hg hd 0 42 (by kernel_rfl) fun u0 e0 g0 h0 => ?_
        replace g0 : u0 = .agg #[.int .i64 P.w, .int .i64 P.h, .int .i64 P.k] := g0
        subst g0
        refine hf.depE hg hd 1 43 (by kernel_rfl) fun u1 e1 g1 h1 => ?_
        replace g1 : u1 = .slice A n ca := g1
        subst g1
        refine hf.depE hg hd 2 44 (by kernel_rfl) fun u2 e2 g2 h2 => ?_
        replace g2 : u2 = .slice B m cb := g2
        subst g2
        go_simp
        with_reducible refine (HJ.out w' (K3.out.tr hW.kp)).mono ?_
        rintro e w'' ⟨rfl, k⟩
        exact hK _ _ rfl ((hW.call FS.out k).upd 3 _ trivial)
      · intro r a w' hf hg hW hr hd K hK
        refine wpOp_of rfl rfl ?_
        have e0 : a.tmps.getD 3 undef = .pointer (some ⟨gp, 0, none⟩) := hf.evalFree (by kernel_rfl)
        have z0 := hW.kp.cell p0 id
        have z1 := hW.kp.cell p1 id
        have z2 := hW.kp.cell p2 id
        go_simp
        exact hK _ _ rfl (hW.upd 4 _ trivial)
      · intro r a w' hf hg hW hr hd K hK
        refine wpOp_of rfl rfl ?_
        have e0 : a.tmps.getD 1 undef = .slice A n ca := hf.evalFree (by kernel_rfl)
        go_simp
        exact hK _ _ rfl (hW.upd 5 _ trivial)
      · intro r a w' hf hg hW hr hd K hK
        refine wpOp_of rfl rfl ?_
        have e0 : a.tmps.getD 2 undef = .slice B m cb := hf.evalFree (by kernel_rfl)
        go_simp
        exact hK _ _ rfl (hW.upd 6 _ trivial)
      · intro r a w' hf hg hW hr hd K hK
        refine wpOp_of rfl rfl ?_
        refine hf.depE hg hd 4 46 (by kernel_rfl) fun u0 e0 g0 h0 => ?_
        replace g0 : u0 = .agg #[.int .i64 P.w, .int .i64 P.h, .int .i64 P.k] := g0
        subst g0
        refine hf.depE hg hd 5 47 (by kernel_rfl) fun u1 e1 g1 h1 => ?_
        replace g1 : u1 = .slice A n ca := g1
        subst g1
        refine hf.depE hg hd 6 48 (by kernel_rfl) fun u2 e2 g2 h2 => ?_
        replace g2 : u2 = .slice B m cb := g2
        subst g2
        go_simp
        with_reducible refine (HR.out w' (K3.out.tr hW.kp)).mono ?_
        rintro e w'' ⟨rfl, k⟩
        exact hK _ _ rfl ((hW.call FS.out k).upd 7 _ trivial)
      · intro r a w' hf hg hW hr hd K hK
        refine wpOp_of rfl rfl ?_
        refine hf.depE hg hd 3 45 (by kernel_rfl) fun u0 e0 g0 h0 => ?_
        replace g0 : u0 = .int .i64 jv := g0
        subst g0
        refine hf.depE hg hd 7 49 (by kernel_rfl) fun u1 e1 g1 h1 => ?_
        replace g1 : u1 = .int .i64 jv := g1
        subst g1
        go_simp
        exact hK _ _ rfl (hW.upd 8 _ trivial)
      · intro r a w' hf hg hW hr hd K hK
        refine wpOp_of rfl rfl ?_
        refine hf.depE hg hd 8 50 (by kernel_rfl) fun u0 e0 g0 h0 => ?_
        replace g0 : u0 = .bool true := g0
        subst g0
        go_simp
        exact hK _ _ rfl (hW.upd 9 _ trivial)
      · intro r a w' hf hg hW hr hd K hK
        refine hf.depE hg hd 9 51 (by kernel_rfl) fun uG eG gG _ => ?_
        replace gG : uG = .bool true := gG
        subst gG
        refine wpOp_run rfl rfl rfl rfl eG ?_
        have e0 : a.tmps.getD 7 undef = .int .i64 lv := hf.evalFree (by kernel_rfl)
        go_simp
        exact hK _ _ rfl (hW.upd 10 _ trivial)
      · intro r a w' hf hg hW hr hd K hK
        refine hf.depE hg hd 9 51 (by kernel_rfl) fun uG eG gG _ => ?_
        replace gG : uG = .bool true := gG
        subst gG
        refine wpOp_run rfl rfl rfl rfl eG ?_
        have e0 : a.tmps.getD 9 undef = .int .i64 lv := hf.evalFree (by kernel_rfl)
        go_simp
        exact hK _ _ rfl (hW.upd 11 _ trivial)
      · intro r a w' hf hg hW hr hd K hK
        refine hf.depE hg hd 9 51 (by kernel_rfl) fun uG eG gG _ => ?_
        replace gG : uG = .bool true := gG
        subst gG
        refine wpOp_run rfl rfl rfl rfl eG ?_
        refine hf.depE hg hd 10 52 (by kernel_rfl) fun u0 e0 g0 h0 => ?_
        replace g0 : u0 = .int .i64 lv := g0
        subst g0
        refine hf.depE hg hd 11 53 (by kernel_rfl) fun u1 e1 g1 h1 => ?_
        replace g1 : u1 = .int .i64 lv := g1
        subst g1
        go_simp
        exact hK _ _ rfl (hW.upd 12 _ trivial)
      · intro r a w' hf hg hW hr hd K hK
        refine wpOp_of rfl rfl ?_
        refine hf.depE hg hd 9 51 (by kernel_rfl) fun u0 e0 g0 h0 => ?_
        replace g0 : u0 = .bool true := g0
        subst g0
        have e0' := get_of_getD e0
        refine hf.depE hg hd 12 54 (by kernel_rfl) fun u1 e1 g1 h1 => ?_
        replace g1 : u1 = .bool true := g1
        subst g1
        have e1' := get_of_getD e1
        go_simp
        exact hK _ _ rfl (hW.upd 13 _ trivial)
      · intro r a w' hf hg hW hr hd K hK
        refine wpOp_of rfl rfl ?_
        refine hf.depE hg hd 13 55 (by kernel_rfl) fun u0 e0 g0 h0 => ?_
        replace g0 : u0 = .bool true := g0
        subst g0
        go_simp
        exact hK _ _ rfl (hW.upd 14 _ trivial)
      · intro r a w' hf hg hW hr hd K hK
        refine hf.depE hg hd 14 56 (by kernel_rfl) fun uG eG gG _ => ?_
        replace gG : uG = .bool true := gG
        subst gG
        refine wpOp_run rfl rfl rfl rfl eG ?_
        have e0 : a.tmps.getD 8 undef = .int .i64 le := hf.evalFree (by kernel_rfl)
        go_simp
        exact hK _ _ rfl (hW.upd 15 _ trivial)
      · intro r a w' hf hg hW hr hd K hK
        refine hf.depE hg hd 14 56 (by kernel_rfl) fun uG eG gG _ => ?_
        replace gG : uG = .bool true := gG
        subst gG
        refine wpOp_run rfl rfl rfl rfl eG ?_
        have e0 : a.tmps.getD 10 undef = .int .i64 le := hf.evalFree (by kernel_rfl)
        go_simp
        exact hK _ _ rfl (hW.upd 16 _ trivial)
      · intro r a w' hf hg hW hr hd K hK
        refine hf.depE hg hd 14 56 (by kernel_rfl) fun uG eG gG _ => ?_
        replace gG : uG = .bool true := gG
        subst gG
        refine wpOp_run rfl rfl rfl rfl eG ?_
        refine hf.depE hg hd 15 57 (by kernel_rfl) fun u0 e0 g0 h0 => ?_
        replace g0 : u0 = .int .i64 le := g0
        subst g0
        refine hf.depE hg hd 16 58 (by kernel_rfl) fun u1 e1 g1 h1 => ?_
        replace g1 : u1 = .int .i64 le := g1
        subst g1
        go_simp
        exact hK _ _ rfl (hW.upd 17 _ trivial)
      · intro r a w' hf hg hW hr hd K hK
        refine wpOp_of rfl rfl ?_
        refine hf.depE hg hd 14 56 (by kernel_rfl) fun u0 e0 g0 h0 => ?_
        replace g0 : u0 = .bool true := g0
        subst g0
        have e0' := get_of_getD e0
        refine hf.depE hg hd 17 59 (by kernel_rfl) fun u1 e1 g1 h1 => ?_
        replace g1 : u1 = .bool true := g1
        subst g1
        have e1' := get_of_getD e1
        go_simp
        exact hK _ _ rfl (hW.upd 18 _ trivial)
      · intro r a w' hf hg hW hr hd K hK
        refine wpOp_of rfl rfl ?_
        refine hf.depE hg hd 18 60 (by kernel_rfl) fun u0 e0 g0 h0 => ?_
        replace g0 : u0 = .bool true := g0
        subst g0
        go_simp
        exact hK _ _ rfl (hW.upd 19 _ trivial)
      · intro r a w' hf hg hW hr hd K hK
        refine hf.depE hg hd 19 61 (by kernel_rfl) fun uG eG gG _ => ?_
        replace gG : uG = .bool true := gG
        subst gG
        refine wpOp_run rfl rfl rfl rfl eG ?_
        go_simp
        with_reducible refine (awake_any w').mono ?_
        rintro e w'' ⟨rfl, k⟩
        exact hK _ _ rfl ((hW.call FS.out k).upd 20 _ trivial)
      · intro r a w' hf hg hW hr hd K hK
        refine wpOp_of rfl rfl ?_
        refine hf.depE hg hd 19 61 (by kernel_rfl) fun u0 e0 g0 h0 => ?_
        replace g0 : u0 = .bool true := g0
        subst g0
        have e0' := get_of_getD e0
        refine hf.depE hg hd 20 62 (by kernel_rfl) fun u1 e1 g1 h1 => ?_
        replace g1 : u1 = .bool true := g1
        subst g1
        have e1' := get_of_getD e1
        go_simp
        exact hK _ _ rfl (hW.upd 21 _ trivial)
      · intro r a w' hf hg hW hr hd K hK
        refine wpOp_of rfl rfl ?_
        refine hf.depE hg hd 21 63 (by kernel_rfl) fun u0 e0 g0 h0 => ?_
        replace g0 : u0 = .bool true := g0
        subst g0
        go_simp
        exact hK _ _ rfl (hW.upd 22 _ trivial)
    intro r' w4 hg hW hr'
    have hkN := hW.kp
    obtain ⟨q22, hq22⟩ : ∃ u, r' 22 = some u := Option.ne_none_iff_exists'.1 (hr' 22 (by decide))
    have hk22 := hg 22 q22 hq22
    replace hk22 : q22 = .bool true := hk22
    subst hk22
    simp only [List.length_cons, List.length_nil, Nat.reduceAdd, List.range_succ, List.range_zero, List.nil_append, List.cons_append, List.map_cons, List.map_nil, putAll, Act.put, List.setIfInBounds_toArray, List.set_cons_succ, List.set_cons_zero, hq22, Option.getD_some]
    clear hg hW hr' FS hq22
    have K4 := Lib.hid (K3.out.tr hkN)
    clear hkN K3 p0 p1 p2 HJ HR
    go_wp2_with fail
    go_ret
    exact ⟨rfl, K4.out⟩
end Go.Proofs.Ytamjhpdgclbfgaa
