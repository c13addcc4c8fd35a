/- Fractions: Proper, badq: walks. Printed by gen_ntl.py. -/
import Derived.Test.YtakgcnjpmpcekaaGreatXNtk
import Derived.Test.YtakgcnjpmpcekaaGreatXLibHmM
namespace Go.Proofs.YtakgcnjpmpcekaaGreat
open Go.RowKit Go.Kq

theorem cmpN_one : cmpN 1 1 = 0 := rfl
theorem ofone_any (w : World) : Calls Tryz.prog 67 #[.int .u64 1] w fun e w' => ∃ v, e = .returned v ∧ IsNew w.heap.size w' v 1 2 ∧ Kp No w w' := of_any 1 w (by omega)
set_option maxHeartbeats 2000000 in
set_option maxRecDepth 100000 in
theorem proper_is (v : Value) (q : Rat) (k : Nat) (w : World) (h : IsQuo w v q k) (hk : k ≤ 300) (hk2 : 2 ≤ k) :
    Calls Tryz.prog 80 #[v] w fun e w' => e = .returned (.bool true) ∧ Kp No w w' := by
  obtain ⟨n, d, rfl, hn, hd⟩ := h
  have hred := q.reduced
  have hdp := q.den_pos
  have hsg : negQ q = true → 0 < q.num.natAbs := fun h => by unfold negQ at h; simp at h; omega
  have hz1 : q.num.natAbs = 0 → q.den = 1 := fun h => by
    have := hred
    unfold Nat.Coprime at this
    rw [h, Nat.gcd_zero_left] at this
    exact this
  generalize negQ q = s at *
  obtain ⟨w1, hw1⟩ : ∃ w1, w1 = w.alloc (.cells #[.bool s, n, d] 89) := ⟨_, rfl⟩
  have k1 : Kp No w w1 := by rw [hw1]; exact Kp.alloc _ _ _
  have hB : w1.heap[w.heap.size]? = some (.cells #[.bool s, n, d] 89 (0, 0)) := by rw [hw1]; exact heap_alloc_new w _
  obtain ⟨c0, c1, c2a, _, _, _⟩ := three_cells hB
  have VN := Lib.hid (fun w0 (hk0 : Kp No w1 w0) => valid_is n q.num.natAbs k w0 (hn.no (k1.tr hk0)) hk)
  have VD := Lib.hid (fun w0 (hk0 : Kp No w1 w0) => valid_is d q.den k w0 (hd.no (k1.tr hk0)) hk)
  have CM := Lib.hid (fun w0 (hk0 : Kp No w1 w0) => common_is n d q.num.natAbs q.den k w0 (hn.no (k1.tr hk0)) (hd.no (k1.tr hk0)) hk)
  have OF := Lib.hid (fun w0 (_ : Kp No w1 w0) => ofone_any w0)
  have O2 := Lib.hid (fun (u v : Value) (w0 : World) (hu : IsNat w0 u 1 k) (hv : IsNat w0 v 1 2) => order_is u v 1 1 k 2 w0 hu hv (by omega) (by omega))
  have OR := Lib.hid (fun (he : q.den = 1) w0 (hk0 : Kp No w1 w0) u (hu : IsNat w0 u 1 2) => by
    have hdw := hd.no (k1.tr hk0)
    rw [he] at hdw
    exact order_is d u 1 1 k 2 w0 hdw hu (by omega) (by omega))
  rw [show Nat.gcd q.num.natAbs q.den = 1 from hred] at CM
  obtain ⟨A, m, c, l, rfl, _, _, _, h4⟩ := hn.pos
  obtain ⟨D, m2, c2, l2, rfl, _, _, _, g4⟩ := hd.pos
  have hm2 := Lib.hid (show ((m2 : Int) == 0) = false by rw [beq_eq_false_iff_ne]; have := g4.2 hdp; omega)
  have K1 := Lib.hid k1
  have hw1 := Lib.hid hw1
  have FIN := Lib.hid (fun w' (hk : Kp No w1 w') => k1.tr hk)
  have he1 := hz1
  generalize hdn : q.den = dn at *
  generalize hnn : q.num.natAbs = nn at *
  have HS := Lib.hid hsg
  clear hn hd hred hdp hsg hz1 k1 hB g4 hdn hnn
  by_cases hm0 : 0 < m
  · have hm := Lib.hid (show ((m : Int) == 0) = false by rw [beq_eq_false_iff_ne]; omega)
    clear OR he1 h4
    go_enter Tryz.func80, Tryz.ntmps80
    go_wp2_with fail
    rw [← hw1.out]
    have FS : Stab (fun i w u => True) := fun i u w w' k h => trivial
    have FS := Lib.hid FS
    refine wp_region_each (fun i u => match i with | 0 => u = .pointer (some ⟨w.heap.size, 1, none⟩) | 1 => u = .slice A m c | 2 => u = .bool true | 3 => u = .bool false | 4 => u = .bool false | 5 => u = .pointer (some ⟨w.heap.size, 2, none⟩) | 6 => u = .slice D m2 c2 | 7 => u = .bool true | 8 => u = .bool false | 9 => u = .bool false | 10 => u = .bool false | 11 => u = .pointer (some ⟨w.heap.size, 2, none⟩) | 12 => u = .slice D m2 c2 | 13 => u = .int .i64 (m2 : Nat) | 14 => u = .bool false | 15 => u = .bool false | 16 => u = .bool false | 17 => u = .pointer (some ⟨w.heap.size, 1, none⟩) | 18 => u = .slice A m c | 19 => u = .int .i64 (m : Nat) | 20 => u = .bool false | 21 => u = .bool false | 22 => u = undef | 23 => u = undef | 24 => u = undef | 25 => u = undef | 26 => u = undef | 27 => u = undef | 28 => u = undef | 29 => u = undef | 30 => u = undef | 31 => u = .bool false | 32 => u = .bool false | _ => True) (HvW w1 (fun i w u => True)) (by kernel_rfl) (by kernel_rfl) (by kernel_rfl) ?_ ?_ ?_
    · exact HvW.start _ _
    · refine ⟨?_, ?_, ?_, ?_, ?_, ?_, ?_, ?_, ?_, ?_, ?_, ?_, ?_, ?_, ?_, ?_, ?_, ?_, ?_, ?_, ?_, ?_, ?_, ?_, ?_, ?_, ?_, ?_, ?_, ?_, ?_, ?_, ?_, trivial⟩
      · intro r a w' hf hg hW hr hd K hK
        refine wpOp_of rfl rfl ?_
        have e0 : a.tmps.getD 1 undef = .pointer (some ⟨w.heap.size, 0, none⟩) := hf.evalFree (by kernel_rfl)
        go_simp
        exact hK _ _ rfl (hW.upd 0 _ trivial)
      · intro r a w' hf hg hW hr hd K hK
        refine wpOp_of rfl rfl ?_
        refine hf.depE hg hd 0 3 (by kernel_rfl) fun u0 e0 g0 h0 => ?_
        replace g0 : u0 = .pointer (some ⟨w.heap.size, 1, none⟩) := g0
        subst g0
        have z0 := hW.kp.cell c1 id
        go_simp
        exact hK _ _ rfl (hW.upd 1 _ trivial)
      · intro r a w' hf hg hW hr hd K hK
        refine wpOp_of rfl rfl ?_
        refine hf.depE hg hd 1 4 (by kernel_rfl) fun u0 e0 g0 h0 => ?_
        replace g0 : u0 = .slice A m c := g0
        subst g0
        go_simp
        with_reducible refine (VN.out _ hW.kp).mono ?_
        rintro e w'' ⟨rfl, rfl⟩
        exact hK _ _ rfl (hW.upd 2 _ trivial)
      · intro r a w' hf hg hW hr hd K hK
        refine wpOp_of rfl rfl ?_
        refine hf.depE hg hd 2 5 (by kernel_rfl) fun u0 e0 g0 h0 => ?_
        replace g0 : u0 = .bool true := g0
        subst g0
        go_simp
        exact hK _ _ rfl (hW.upd 3 _ trivial)
      · intro r a w' hf hg hW hr hd K hK
        refine wpOp_of rfl rfl ?_
        refine hf.depE hg hd 3 6 (by kernel_rfl) fun u0 e0 g0 h0 => ?_
        replace g0 : u0 = .bool false := g0
        subst g0
        go_simp
        exact hK _ _ rfl (hW.upd 4 _ trivial)
      · intro r a w' hf hg hW hr hd K hK
        refine hf.depE hg hd 4 7 (by kernel_rfl) fun uG eG gG _ => ?_
        replace gG : uG = .bool false := gG
        subst gG
        refine wpOp_run rfl rfl rfl rfl eG ?_
        have e0 : a.tmps.getD 1 undef = .pointer (some ⟨w.heap.size, 0, none⟩) := hf.evalFree (by kernel_rfl)
        go_simp
        exact hK _ _ rfl (hW.upd 5 _ trivial)
      · intro r a w' hf hg hW hr hd K hK
        refine hf.depE hg hd 4 7 (by kernel_rfl) fun uG eG gG _ => ?_
        replace gG : uG = .bool false := gG
        subst gG
        refine wpOp_run rfl rfl rfl rfl eG ?_
        refine hf.depE hg hd 5 8 (by kernel_rfl) fun u0 e0 g0 h0 => ?_
        replace g0 : u0 = .pointer (some ⟨w.heap.size, 2, none⟩) := g0
        subst g0
        have z0 := hW.kp.cell c2a id
        go_simp
        exact hK _ _ rfl (hW.upd 6 _ trivial)
      · intro r a w' hf hg hW hr hd K hK
        refine hf.depE hg hd 4 7 (by kernel_rfl) fun uG eG gG _ => ?_
        replace gG : uG = .bool false := gG
        subst gG
        refine wpOp_run rfl rfl rfl rfl eG ?_
        refine hf.depE hg hd 6 9 (by kernel_rfl) fun u0 e0 g0 h0 => ?_
        replace g0 : u0 = .slice D m2 c2 := g0
        subst g0
        go_simp
        with_reducible refine (VD.out _ hW.kp).mono ?_
        rintro e w'' ⟨rfl, rfl⟩
        exact hK _ _ rfl (hW.upd 7 _ trivial)
      · intro r a w' hf hg hW hr hd K hK
        refine hf.depE hg hd 4 7 (by kernel_rfl) fun uG eG gG _ => ?_
        replace gG : uG = .bool false := gG
        subst gG
        refine wpOp_run rfl rfl rfl rfl eG ?_
        refine hf.depE hg hd 7 10 (by kernel_rfl) fun u0 e0 g0 h0 => ?_
        replace g0 : u0 = .bool true := g0
        subst g0
        go_simp
        exact hK _ _ rfl (hW.upd 8 _ trivial)
      · intro r a w' hf hg hW hr hd K hK
        refine wpOp_of rfl rfl ?_
        refine hf.depE hg hd 4 7 (by kernel_rfl) fun u0 e0 g0 h0 => ?_
        replace g0 : u0 = .bool false := g0
        subst g0
        have e0' := get_of_getD e0
        refine hf.depE hg hd 8 11 (by kernel_rfl) fun u1 e1 g1 h1 => ?_
        replace g1 : u1 = .bool false := g1
        subst g1
        have e1' := get_of_getD e1
        go_simp
        exact hK _ _ rfl (hW.upd 9 _ trivial)
      · intro r a w' hf hg hW hr hd K hK
        refine wpOp_of rfl rfl ?_
        refine hf.depE hg hd 9 12 (by kernel_rfl) fun u0 e0 g0 h0 => ?_
        replace g0 : u0 = .bool false := g0
        subst g0
        go_simp
        exact hK _ _ rfl (hW.upd 10 _ trivial)
      · intro r a w' hf hg hW hr hd K hK
        refine hf.depE hg hd 10 13 (by kernel_rfl) fun uG eG gG _ => ?_
        replace gG : uG = .bool false := gG
        subst gG
        refine wpOp_run rfl rfl rfl rfl eG ?_
        have e0 : a.tmps.getD 1 undef = .pointer (some ⟨w.heap.size, 0, none⟩) := hf.evalFree (by kernel_rfl)
        go_simp
        exact hK _ _ rfl (hW.upd 11 _ trivial)
      · intro r a w' hf hg hW hr hd K hK
        refine hf.depE hg hd 10 13 (by kernel_rfl) fun uG eG gG _ => ?_
        replace gG : uG = .bool false := gG
        subst gG
        refine wpOp_run rfl rfl rfl rfl eG ?_
        refine hf.depE hg hd 11 14 (by kernel_rfl) fun u0 e0 g0 h0 => ?_
        replace g0 : u0 = .pointer (some ⟨w.heap.size, 2, none⟩) := g0
        subst g0
        have z0 := hW.kp.cell c2a id
        go_simp
        exact hK _ _ rfl (hW.upd 12 _ trivial)
      · intro r a w' hf hg hW hr hd K hK
        refine hf.depE hg hd 10 13 (by kernel_rfl) fun uG eG gG _ => ?_
        replace gG : uG = .bool false := gG
        subst gG
        refine wpOp_run rfl rfl rfl rfl eG ?_
        refine hf.depE hg hd 12 15 (by kernel_rfl) fun u0 e0 g0 h0 => ?_
        replace g0 : u0 = .slice D m2 c2 := g0
        subst g0
        go_simp
        exact hK _ _ rfl (hW.upd 13 _ trivial)
      · intro r a w' hf hg hW hr hd K hK
        refine hf.depE hg hd 10 13 (by kernel_rfl) fun uG eG gG _ => ?_
        replace gG : uG = .bool false := gG
        subst gG
        refine wpOp_run rfl rfl rfl rfl eG ?_
        refine hf.depE hg hd 13 16 (by kernel_rfl) fun u0 e0 g0 h0 => ?_
        replace g0 : u0 = .int .i64 (m2 : Nat) := g0
        subst g0
        have hz := hm2.out
        go_simp
        exact hK _ _ rfl (hW.upd 14 _ trivial)
      · intro r a w' hf hg hW hr hd K hK
        refine wpOp_of rfl rfl ?_
        refine hf.depE hg hd 10 13 (by kernel_rfl) fun u0 e0 g0 h0 => ?_
        replace g0 : u0 = .bool false := g0
        subst g0
        have e0' := get_of_getD e0
        refine hf.depE hg hd 14 17 (by kernel_rfl) fun u1 e1 g1 h1 => ?_
        replace g1 : u1 = .bool false := g1
        subst g1
        have e1' := get_of_getD e1
        go_simp
        exact hK _ _ rfl (hW.upd 15 _ trivial)
      · intro r a w' hf hg hW hr hd K hK
        refine wpOp_of rfl rfl ?_
        refine hf.depE hg hd 15 18 (by kernel_rfl) fun u0 e0 g0 h0 => ?_
        replace g0 : u0 = .bool false := g0
        subst g0
        go_simp
        exact hK _ _ rfl (hW.upd 16 _ trivial)
      · intro r a w' hf hg hW hr hd K hK
        refine hf.depE hg hd 16 19 (by kernel_rfl) fun uG eG gG _ => ?_
        replace gG : uG = .bool false := gG
        subst gG
        refine wpOp_run rfl rfl rfl rfl eG ?_
        have e0 : a.tmps.getD 1 undef = .pointer (some ⟨w.heap.size, 0, none⟩) := hf.evalFree (by kernel_rfl)
        go_simp
        exact hK _ _ rfl (hW.upd 17 _ trivial)
      · intro r a w' hf hg hW hr hd K hK
        refine hf.depE hg hd 16 19 (by kernel_rfl) fun uG eG gG _ => ?_
        replace gG : uG = .bool false := gG
        subst gG
        refine wpOp_run rfl rfl rfl rfl eG ?_
        refine hf.depE hg hd 17 20 (by kernel_rfl) fun u0 e0 g0 h0 => ?_
        replace g0 : u0 = .pointer (some ⟨w.heap.size, 1, none⟩) := g0
        subst g0
        have z0 := hW.kp.cell c1 id
        go_simp
        exact hK _ _ rfl (hW.upd 18 _ trivial)
      · intro r a w' hf hg hW hr hd K hK
        refine hf.depE hg hd 16 19 (by kernel_rfl) fun uG eG gG _ => ?_
        replace gG : uG = .bool false := gG
        subst gG
        refine wpOp_run rfl rfl rfl rfl eG ?_
        refine hf.depE hg hd 18 21 (by kernel_rfl) fun u0 e0 g0 h0 => ?_
        replace g0 : u0 = .slice A m c := g0
        subst g0
        go_simp
        exact hK _ _ rfl (hW.upd 19 _ trivial)
      · intro r a w' hf hg hW hr hd K hK
        refine hf.depE hg hd 16 19 (by kernel_rfl) fun uG eG gG _ => ?_
        replace gG : uG = .bool false := gG
        subst gG
        refine wpOp_run rfl rfl rfl rfl eG ?_
        refine hf.depE hg hd 19 22 (by kernel_rfl) fun u0 e0 g0 h0 => ?_
        replace g0 : u0 = .int .i64 (m : Nat) := g0
        subst g0
        have hz := hm.out
        go_simp
        exact hK _ _ rfl (hW.upd 20 _ trivial)
      · intro r a w' hf hg hW hr hd K hK
        refine hf.depE hg hd 16 19 (by kernel_rfl) fun uG eG gG _ => ?_
        replace gG : uG = .bool false := gG
        subst gG
        refine wpOp_run rfl rfl rfl rfl eG ?_
        refine hf.depE hg hd 20 23 (by kernel_rfl) fun u0 e0 g0 h0 => ?_
        replace g0 : u0 = .bool false := g0
        subst g0
        go_simp
        exact hK _ _ rfl (hW.upd 21 _ trivial)
      · intro r a w' hf hg hW hr hd K hK
        refine hf.depE hg hd 21 24 (by kernel_rfl) fun uG eG gG _ => ?_
        replace gG : uG = .bool false := gG
        subst gG
        refine wpOp_skip rfl rfl rfl rfl eG (by decide) ?_
        exact hK _ _ rfl (hW.upd 22 _ trivial)
      · intro r a w' hf hg hW hr hd K hK
        refine hf.depE hg hd 21 24 (by kernel_rfl) fun uG eG gG _ => ?_
        replace gG : uG = .bool false := gG
        subst gG
        refine wpOp_skip rfl rfl rfl rfl eG (by decide) ?_
        exact hK _ _ rfl (hW.upd 23 _ trivial)
      · intro r a w' hf hg hW hr hd K hK
        refine hf.depE hg hd 21 24 (by kernel_rfl) fun uG eG gG _ => ?_
        replace gG : uG = .bool false := gG
        subst gG
        refine wpOp_skip rfl rfl rfl rfl eG (by decide) ?_
        exact hK _ _ rfl (hW.upd 24 _ trivial)
      · intro r a w' hf hg hW hr hd K hK
        refine hf.depE hg hd 24 27 (by kernel_rfl) fun uG eG gG _ => ?_
        replace gG : uG = undef := gG
        subst gG
        refine wpOp_skipU rfl rfl rfl rfl eG ?_
        exact hK _ _ rfl (hW.upd 25 _ trivial)
      · intro r a w' hf hg hW hr hd K hK
        refine hf.depE hg hd 24 27 (by kernel_rfl) fun uG eG gG _ => ?_
        replace gG : uG = undef := gG
        subst gG
        refine wpOp_skipU rfl rfl rfl rfl eG ?_
        exact hK _ _ rfl (hW.upd 26 _ trivial)
      · intro r a w' hf hg hW hr hd K hK
        refine hf.depE hg hd 24 27 (by kernel_rfl) fun uG eG gG _ => ?_
        replace gG : uG = undef := gG
        subst gG
        refine wpOp_skipU rfl rfl rfl rfl eG ?_
        exact hK _ _ rfl (hW.upd 27 _ trivial)
      · intro r a w' hf hg hW hr hd K hK
        refine hf.depE hg hd 24 27 (by kernel_rfl) fun uG eG gG _ => ?_
        replace gG : uG = undef := gG
        subst gG
        refine wpOp_skipU rfl rfl rfl rfl eG ?_
        exact hK _ _ rfl (hW.upd 28 _ trivial)
      · intro r a w' hf hg hW hr hd K hK
        refine hf.depE hg hd 24 27 (by kernel_rfl) fun uG eG gG _ => ?_
        replace gG : uG = undef := gG
        subst gG
        refine wpOp_skipU rfl rfl rfl rfl eG ?_
        exact hK _ _ rfl (hW.upd 29 _ trivial)
      · intro r a w' hf hg hW hr hd K hK
        refine hf.depE hg hd 21 24 (by kernel_rfl) fun uG eG gG _ => ?_
        replace gG : uG = .bool false := gG
        subst gG
        refine wpOp_skip rfl rfl rfl rfl eG (by decide) ?_
        exact hK _ _ rfl (hW.upd 30 _ trivial)
      · intro r a w' hf hg hW hr hd K hK
        refine hf.depE hg hd 16 19 (by kernel_rfl) fun uG eG gG _ => ?_
        replace gG : uG = .bool false := gG
        subst gG
        refine wpOp_run rfl rfl rfl rfl eG ?_
        refine hf.depE hg hd 21 24 (by kernel_rfl) fun u0 e0 g0 h0 => ?_
        replace g0 : u0 = .bool false := g0
        subst g0
        have e0' := get_of_getD e0
        refine hf.depE hg hd 30 33 (by kernel_rfl) fun u1 e1 g1 h1 => ?_
        replace g1 : u1 = undef := g1
        subst g1
        have e1' := get_of_getD e1
        go_simp
        exact hK _ _ rfl (hW.upd 31 _ trivial)
      · intro r a w' hf hg hW hr hd K hK
        refine wpOp_of rfl rfl ?_
        refine hf.depE hg hd 16 19 (by kernel_rfl) fun u0 e0 g0 h0 => ?_
        replace g0 : u0 = .bool false := g0
        subst g0
        have e0' := get_of_getD e0
        refine hf.depE hg hd 31 34 (by kernel_rfl) fun u1 e1 g1 h1 => ?_
        replace g1 : u1 = .bool false := g1
        subst g1
        have e1' := get_of_getD e1
        go_simp
        exact hK _ _ rfl (hW.upd 32 _ trivial)
    intro r' w3 hg hW hr'
    have hkN := hW.kp
    obtain ⟨q32, hq32⟩ : ∃ u, r' 32 = some u := Option.ne_none_iff_exists'.1 (hr' 32 (by decide))
    have hk32 := hg 32 q32 hq32
    replace hk32 : q32 = .bool false := hk32
    subst hk32
    simp only [List.length_cons, List.length_nil, Nat.reduceAdd, List.range_succ, List.range_zero, List.nil_append, List.cons_append, List.map_cons, List.map_nil, putAll, Act.put, List.setIfInBounds_toArray, List.set_cons_succ, List.set_cons_zero, hq32, Option.getD_some]
    clear hg hW hr' FS hq32
    replace c1 := hkN.cell c1 id
    replace c2a := hkN.cell c2a id
    have KN := Lib.hid hkN
    clear hkN c0
    go_wp2_with fail
    refine (CM.out _ KN.out).mono ?_
    rintro _ w4 ⟨z, rfl, hz, k4⟩
    have HZ := Lib.hid hz
    have K4 := Lib.hid (KN.out.tr k4)
    clear hz k4
    go_wp2_with fail
    refine (OF.out _ K4.out).mono ?_
    rintro _ w5 ⟨u, rfl, hu, k5⟩
    have K5 := Lib.hid (K4.out.tr k5)
    have O3 := Lib.hid (O2.out z u w5 (HZ.out.no k5) hu.1)
    clear hu k5
    go_wp2_with fail
    refine O3.out.mono ?_
    rintro _ w6 ⟨rfl, rfl⟩
    rw [cmpN_one]
    go_wp2_with fail
    go_ret
    exact ⟨rfl, FIN.out _ K5.out⟩
  · obtain rfl : m = 0 := by omega
    have hn0 : nn = 0 := by
      rcases Nat.eq_zero_or_pos nn with h | h
      · exact h
      · exact absurd (h4.2 h) hm0
    have hs : s = false := by
      cases s
      · rfl
      · have := HS.out rfl
        omega
    subst hs
    have hdn1 := he1 hn0
    have OR := Lib.hid (OR.out hdn1)
    rw [cmpN_one] at OR
    clear he1 h4 hdn1 hm0
    go_enter Tryz.func80, Tryz.ntmps80
    go_wp2_with fail
    rw [← hw1.out]
    have FS : Stab (fun i w u => (i = 27 → IsNat w u 1 2) ∧ True) := fun i u w w' k h => ⟨fun e => IsNat.no (h.1 e) k, trivial⟩
    have FS := Lib.hid FS
    refine wp_region_each (fun i u => match i with | 0 => u = .pointer (some ⟨w.heap.size, 1, none⟩) | 1 => u = .slice A 0 c | 2 => u = .bool true | 3 => u = .bool false | 4 => u = .bool false | 5 => u = .pointer (some ⟨w.heap.size, 2, none⟩) | 6 => u = .slice D m2 c2 | 7 => u = .bool true | 8 => u = .bool false | 9 => u = .bool false | 10 => u = .bool false | 11 => u = .pointer (some ⟨w.heap.size, 2, none⟩) | 12 => u = .slice D m2 c2 | 13 => u = .int .i64 (m2 : Nat) | 14 => u = .bool false | 15 => u = .bool false | 16 => u = .bool false | 17 => u = .pointer (some ⟨w.heap.size, 1, none⟩) | 18 => u = .slice A 0 c | 19 => u = .int .i64 0 | 20 => u = .bool true | 21 => u = .bool true | 22 => u = .pointer (some ⟨w.heap.size, 0, none⟩) | 23 => u = .bool false | 24 => u = .bool false | 25 => u = .pointer (some ⟨w.heap.size, 2, none⟩) | 26 => u = .slice D m2 c2 | 28 => u = .int .i64 0 | 29 => u = .bool false | 30 => u = .bool false | 31 => u = .bool false | 32 => u = .bool false | _ => True) (HvW w1 (fun i w u => (i = 27 → IsNat w u 1 2) ∧ True)) (by kernel_rfl) (by kernel_rfl) (by kernel_rfl) ?_ ?_ ?_
    · exact HvW.start _ _
    · refine ⟨?_, ?_, ?_, ?_, ?_, ?_, ?_, ?_, ?_, ?_, ?_, ?_, ?_, ?_, ?_, ?_, ?_, ?_, ?_, ?_, ?_, ?_, ?_, ?_, ?_, ?_, ?_, ?_, ?_, ?_, ?_, ?_, ?_, trivial⟩
      · intro r a w' hf hg hW hr hd K hK
        refine wpOp_of rfl rfl ?_
        have e0 : a.tmps.getD 1 undef = .pointer (some ⟨w.heap.size, 0, none⟩) := hf.evalFree (by kernel_rfl)
        go_simp
        exact hK _ _ rfl (hW.upd 0 _ ⟨fun e => absurd e (by decide), trivial⟩)
      · intro r a w' hf hg hW hr hd K hK
        refine wpOp_of rfl rfl ?_
        refine hf.depE hg hd 0 3 (by kernel_rfl) fun u0 e0 g0 h0 => ?_
        replace g0 : u0 = .pointer (some ⟨w.heap.size, 1, none⟩) := g0
        subst g0
        have z0 := hW.kp.cell c1 id
        go_simp
        exact hK _ _ rfl (hW.upd 1 _ ⟨fun e => absurd e (by decide), trivial⟩)
      · intro r a w' hf hg hW hr hd K hK
        refine wpOp_of rfl rfl ?_
        refine hf.depE hg hd 1 4 (by kernel_rfl) fun u0 e0 g0 h0 => ?_
        replace g0 : u0 = .slice A 0 c := g0
        subst g0
        go_simp
        with_reducible refine (VN.out _ hW.kp).mono ?_
        rintro e w'' ⟨rfl, rfl⟩
        exact hK _ _ rfl (hW.upd 2 _ ⟨fun e => absurd e (by decide), trivial⟩)
      · intro r a w' hf hg hW hr hd K hK
        refine wpOp_of rfl rfl ?_
        refine hf.depE hg hd 2 5 (by kernel_rfl) fun u0 e0 g0 h0 => ?_
        replace g0 : u0 = .bool true := g0
        subst g0
        go_simp
        exact hK _ _ rfl (hW.upd 3 _ ⟨fun e => absurd e (by decide), trivial⟩)
      · intro r a w' hf hg hW hr hd K hK
        refine wpOp_of rfl rfl ?_
        refine hf.depE hg hd 3 6 (by kernel_rfl) fun u0 e0 g0 h0 => ?_
        replace g0 : u0 = .bool false := g0
        subst g0
        go_simp
        exact hK _ _ rfl (hW.upd 4 _ ⟨fun e => absurd e (by decide), trivial⟩)
      · intro r a w' hf hg hW hr hd K hK
        refine hf.depE hg hd 4 7 (by kernel_rfl) fun uG eG gG _ => ?_
        replace gG : uG = .bool false := gG
        subst gG
        refine wpOp_run rfl rfl rfl rfl eG ?_
        have e0 : a.tmps.getD 1 undef = .pointer (some ⟨w.heap.size, 0, none⟩) := hf.evalFree (by kernel_rfl)
        go_simp
        exact hK _ _ rfl (hW.upd 5 _ ⟨fun e => absurd e (by decide), trivial⟩)
      · intro r a w' hf hg hW hr hd K hK
        refine hf.depE hg hd 4 7 (by kernel_rfl) fun uG eG gG _ => ?_
        replace gG : uG = .bool false := gG
        subst gG
        refine wpOp_run rfl rfl rfl rfl eG ?_
        refine hf.depE hg hd 5 8 (by kernel_rfl) fun u0 e0 g0 h0 => ?_
        replace g0 : u0 = .pointer (some ⟨w.heap.size, 2, none⟩) := g0
        subst g0
        have z0 := hW.kp.cell c2a id
        go_simp
        exact hK _ _ rfl (hW.upd 6 _ ⟨fun e => absurd e (by decide), trivial⟩)
      · intro r a w' hf hg hW hr hd K hK
        refine hf.depE hg hd 4 7 (by kernel_rfl) fun uG eG gG _ => ?_
        replace gG : uG = .bool false := gG
        subst gG
        refine wpOp_run rfl rfl rfl rfl eG ?_
        refine hf.depE hg hd 6 9 (by kernel_rfl) fun u0 e0 g0 h0 => ?_
        replace g0 : u0 = .slice D m2 c2 := g0
        subst g0
        go_simp
        with_reducible refine (VD.out _ hW.kp).mono ?_
        rintro e w'' ⟨rfl, rfl⟩
        exact hK _ _ rfl (hW.upd 7 _ ⟨fun e => absurd e (by decide), trivial⟩)
      · intro r a w' hf hg hW hr hd K hK
        refine hf.depE hg hd 4 7 (by kernel_rfl) fun uG eG gG _ => ?_
        replace gG : uG = .bool false := gG
        subst gG
        refine wpOp_run rfl rfl rfl rfl eG ?_
        refine hf.depE hg hd 7 10 (by kernel_rfl) fun u0 e0 g0 h0 => ?_
        replace g0 : u0 = .bool true := g0
        subst g0
        go_simp
        exact hK _ _ rfl (hW.upd 8 _ ⟨fun e => absurd e (by decide), trivial⟩)
      · intro r a w' hf hg hW hr hd K hK
        refine wpOp_of rfl rfl ?_
        refine hf.depE hg hd 4 7 (by kernel_rfl) fun u0 e0 g0 h0 => ?_
        replace g0 : u0 = .bool false := g0
        subst g0
        have e0' := get_of_getD e0
        refine hf.depE hg hd 8 11 (by kernel_rfl) fun u1 e1 g1 h1 => ?_
        replace g1 : u1 = .bool false := g1
        subst g1
        have e1' := get_of_getD e1
        go_simp
        exact hK _ _ rfl (hW.upd 9 _ ⟨fun e => absurd e (by decide), trivial⟩)
      · intro r a w' hf hg hW hr hd K hK
        refine wpOp_of rfl rfl ?_
        refine hf.depE hg hd 9 12 (by kernel_rfl) fun u0 e0 g0 h0 => ?_
        replace g0 : u0 = .bool false := g0
        subst g0
        go_simp
        exact hK _ _ rfl (hW.upd 10 _ ⟨fun e => absurd e (by decide), trivial⟩)
      · intro r a w' hf hg hW hr hd K hK
        refine hf.depE hg hd 10 13 (by kernel_rfl) fun uG eG gG _ => ?_
        replace gG : uG = .bool false := gG
        subst gG
        refine wpOp_run rfl rfl rfl rfl eG ?_
        have e0 : a.tmps.getD 1 undef = .pointer (some ⟨w.heap.size, 0, none⟩) := hf.evalFree (by kernel_rfl)
        go_simp
        exact hK _ _ rfl (hW.upd 11 _ ⟨fun e => absurd e (by decide), trivial⟩)
      · intro r a w' hf hg hW hr hd K hK
        refine hf.depE hg hd 10 13 (by kernel_rfl) fun uG eG gG _ => ?_
        replace gG : uG = .bool false := gG
        subst gG
        refine wpOp_run rfl rfl rfl rfl eG ?_
        refine hf.depE hg hd 11 14 (by kernel_rfl) fun u0 e0 g0 h0 => ?_
        replace g0 : u0 = .pointer (some ⟨w.heap.size, 2, none⟩) := g0
        subst g0
        have z0 := hW.kp.cell c2a id
        go_simp
        exact hK _ _ rfl (hW.upd 12 _ ⟨fun e => absurd e (by decide), trivial⟩)
      · intro r a w' hf hg hW hr hd K hK
        refine hf.depE hg hd 10 13 (by kernel_rfl) fun uG eG gG _ => ?_
        replace gG : uG = .bool false := gG
        subst gG
        refine wpOp_run rfl rfl rfl rfl eG ?_
        refine hf.depE hg hd 12 15 (by kernel_rfl) fun u0 e0 g0 h0 => ?_
        replace g0 : u0 = .slice D m2 c2 := g0
        subst g0
        go_simp
        exact hK _ _ rfl (hW.upd 13 _ ⟨fun e => absurd e (by decide), trivial⟩)
      · intro r a w' hf hg hW hr hd K hK
        refine hf.depE hg hd 10 13 (by kernel_rfl) fun uG eG gG _ => ?_
        replace gG : uG = .bool false := gG
        subst gG
        refine wpOp_run rfl rfl rfl rfl eG ?_
        refine hf.depE hg hd 13 16 (by kernel_rfl) fun u0 e0 g0 h0 => ?_
        replace g0 : u0 = .int .i64 (m2 : Nat) := g0
        subst g0
        have hz := hm2.out
        go_simp
        exact hK _ _ rfl (hW.upd 14 _ ⟨fun e => absurd e (by decide), trivial⟩)
      · intro r a w' hf hg hW hr hd K hK
        refine wpOp_of rfl rfl ?_
        refine hf.depE hg hd 10 13 (by kernel_rfl) fun u0 e0 g0 h0 => ?_
        replace g0 : u0 = .bool false := g0
        subst g0
        have e0' := get_of_getD e0
        refine hf.depE hg hd 14 17 (by kernel_rfl) fun u1 e1 g1 h1 => ?_
        replace g1 : u1 = .bool false := g1
        subst g1
        have e1' := get_of_getD e1
        go_simp
        exact hK _ _ rfl (hW.upd 15 _ ⟨fun e => absurd e (by decide), trivial⟩)
      · intro r a w' hf hg hW hr hd K hK
        refine wpOp_of rfl rfl ?_
        refine hf.depE hg hd 15 18 (by kernel_rfl) fun u0 e0 g0 h0 => ?_
        replace g0 : u0 = .bool false := g0
        subst g0
        go_simp
        exact hK _ _ rfl (hW.upd 16 _ ⟨fun e => absurd e (by decide), trivial⟩)
      · intro r a w' hf hg hW hr hd K hK
        refine hf.depE hg hd 16 19 (by kernel_rfl) fun uG eG gG _ => ?_
        replace gG : uG = .bool false := gG
        subst gG
        refine wpOp_run rfl rfl rfl rfl eG ?_
        have e0 : a.tmps.getD 1 undef = .pointer (some ⟨w.heap.size, 0, none⟩) := hf.evalFree (by kernel_rfl)
        go_simp
        exact hK _ _ rfl (hW.upd 17 _ ⟨fun e => absurd e (by decide), trivial⟩)
      · intro r a w' hf hg hW hr hd K hK
        refine hf.depE hg hd 16 19 (by kernel_rfl) fun uG eG gG _ => ?_
        replace gG : uG = .bool false := gG
        subst gG
        refine wpOp_run rfl rfl rfl rfl eG ?_
        refine hf.depE hg hd 17 20 (by kernel_rfl) fun u0 e0 g0 h0 => ?_
        replace g0 : u0 = .pointer (some ⟨w.heap.size, 1, none⟩) := g0
        subst g0
        have z0 := hW.kp.cell c1 id
        go_simp
        exact hK _ _ rfl (hW.upd 18 _ ⟨fun e => absurd e (by decide), trivial⟩)
      · intro r a w' hf hg hW hr hd K hK
        refine hf.depE hg hd 16 19 (by kernel_rfl) fun uG eG gG _ => ?_
        replace gG : uG = .bool false := gG
        subst gG
        refine wpOp_run rfl rfl rfl rfl eG ?_
        refine hf.depE hg hd 18 21 (by kernel_rfl) fun u0 e0 g0 h0 => ?_
        replace g0 : u0 = .slice A 0 c := g0
        subst g0
        go_simp
        exact hK _ _ rfl (hW.upd 19 _ ⟨fun e => absurd e (by decide), trivial⟩)
      · intro r a w' hf hg hW hr hd K hK
        refine hf.depE hg hd 16 19 (by kernel_rfl) fun uG eG gG _ => ?_
        replace gG : uG = .bool false := gG
        subst gG
        refine wpOp_run rfl rfl rfl rfl eG ?_
        refine hf.depE hg hd 19 22 (by kernel_rfl) fun u0 e0 g0 h0 => ?_
        replace g0 : u0 = .int .i64 0 := g0
        subst g0
        go_simp
        exact hK _ _ rfl (hW.upd 20 _ ⟨fun e => absurd e (by decide), trivial⟩)
      · intro r a w' hf hg hW hr hd K hK
        refine hf.depE hg hd 16 19 (by kernel_rfl) fun uG eG gG _ => ?_
        replace gG : uG = .bool false := gG
        subst gG
        refine wpOp_run rfl rfl rfl rfl eG ?_
        refine hf.depE hg hd 20 23 (by kernel_rfl) fun u0 e0 g0 h0 => ?_
        replace g0 : u0 = .bool true := g0
        subst g0
        go_simp
        exact hK _ _ rfl (hW.upd 21 _ ⟨fun e => absurd e (by decide), trivial⟩)
      · intro r a w' hf hg hW hr hd K hK
        refine hf.depE hg hd 21 24 (by kernel_rfl) fun uG eG gG _ => ?_
        replace gG : uG = .bool true := gG
        subst gG
        refine wpOp_run rfl rfl rfl rfl eG ?_
        have e0 : a.tmps.getD 1 undef = .pointer (some ⟨w.heap.size, 0, none⟩) := hf.evalFree (by kernel_rfl)
        go_simp
        exact hK _ _ rfl (hW.upd 22 _ ⟨fun e => absurd e (by decide), trivial⟩)
      · intro r a w' hf hg hW hr hd K hK
        refine hf.depE hg hd 21 24 (by kernel_rfl) fun uG eG gG _ => ?_
        replace gG : uG = .bool true := gG
        subst gG
        refine wpOp_run rfl rfl rfl rfl eG ?_
        refine hf.depE hg hd 22 25 (by kernel_rfl) fun u0 e0 g0 h0 => ?_
        replace g0 : u0 = .pointer (some ⟨w.heap.size, 0, none⟩) := g0
        subst g0
        have z0 := hW.kp.cell c0 id
        go_simp
        exact hK _ _ rfl (hW.upd 23 _ ⟨fun e => absurd e (by decide), trivial⟩)
      · intro r a w' hf hg hW hr hd K hK
        refine hf.depE hg hd 21 24 (by kernel_rfl) fun uG eG gG _ => ?_
        replace gG : uG = .bool true := gG
        subst gG
        refine wpOp_run rfl rfl rfl rfl eG ?_
        refine hf.depE hg hd 23 26 (by kernel_rfl) fun u0 e0 g0 h0 => ?_
        replace g0 : u0 = .bool false := g0
        subst g0
        go_simp
        exact hK _ _ rfl (hW.upd 24 _ ⟨fun e => absurd e (by decide), trivial⟩)
      · intro r a w' hf hg hW hr hd K hK
        refine hf.depE hg hd 24 27 (by kernel_rfl) fun uG eG gG _ => ?_
        replace gG : uG = .bool false := gG
        subst gG
        refine wpOp_run rfl rfl rfl rfl eG ?_
        have e0 : a.tmps.getD 1 undef = .pointer (some ⟨w.heap.size, 0, none⟩) := hf.evalFree (by kernel_rfl)
        go_simp
        exact hK _ _ rfl (hW.upd 25 _ ⟨fun e => absurd e (by decide), trivial⟩)
      · intro r a w' hf hg hW hr hd K hK
        refine hf.depE hg hd 24 27 (by kernel_rfl) fun uG eG gG _ => ?_
        replace gG : uG = .bool false := gG
        subst gG
        refine wpOp_run rfl rfl rfl rfl eG ?_
        refine hf.depE hg hd 25 28 (by kernel_rfl) fun u0 e0 g0 h0 => ?_
        replace g0 : u0 = .pointer (some ⟨w.heap.size, 2, none⟩) := g0
        subst g0
        have z0 := hW.kp.cell c2a id
        go_simp
        exact hK _ _ rfl (hW.upd 26 _ ⟨fun e => absurd e (by decide), trivial⟩)
      · intro r a w' hf hg hW hr hd K hK
        refine hf.depE hg hd 24 27 (by kernel_rfl) fun uG eG gG _ => ?_
        replace gG : uG = .bool false := gG
        subst gG
        refine wpOp_run rfl rfl rfl rfl eG ?_
        go_simp
        with_reducible refine (OF.out _ hW.kp).mono ?_
        rintro e w'' ⟨z, rfl, hz, k⟩
        exact hK _ _ trivial ((hW.call FS.out k).upd 27 _ ⟨fun _ => hz.1, trivial⟩)
      · intro r a w' hf hg hW hr hd K hK
        refine hf.depE hg hd 24 27 (by kernel_rfl) fun uG eG gG _ => ?_
        replace gG : uG = .bool false := gG
        subst gG
        refine wpOp_run rfl rfl rfl rfl eG ?_
        refine hf.depE hg hd 26 29 (by kernel_rfl) fun u0 e0 g0 h0 => ?_
        replace g0 : u0 = .slice D m2 c2 := g0
        subst g0
        refine hf.depE hg hd 27 30 (by kernel_rfl) fun u1 e1 g1 h1 => ?_
        have f1 := (hW.hv 27 u1 h1).1 rfl
        go_simp
        with_reducible refine (OR.out _ hW.kp _ f1).mono ?_
        rintro e w'' ⟨rfl, rfl⟩
        exact hK _ _ rfl (hW.upd 28 _ ⟨fun e => absurd e (by decide), trivial⟩)
      · intro r a w' hf hg hW hr hd K hK
        refine hf.depE hg hd 24 27 (by kernel_rfl) fun uG eG gG _ => ?_
        replace gG : uG = .bool false := gG
        subst gG
        refine wpOp_run rfl rfl rfl rfl eG ?_
        refine hf.depE hg hd 28 31 (by kernel_rfl) fun u0 e0 g0 h0 => ?_
        replace g0 : u0 = .int .i64 0 := g0
        subst g0
        go_simp
        exact hK _ _ rfl (hW.upd 29 _ ⟨fun e => absurd e (by decide), trivial⟩)
      · intro r a w' hf hg hW hr hd K hK
        refine hf.depE hg hd 21 24 (by kernel_rfl) fun uG eG gG _ => ?_
        replace gG : uG = .bool true := gG
        subst gG
        refine wpOp_run rfl rfl rfl rfl eG ?_
        refine hf.depE hg hd 24 27 (by kernel_rfl) fun u0 e0 g0 h0 => ?_
        replace g0 : u0 = .bool false := g0
        subst g0
        have e0' := get_of_getD e0
        refine hf.depE hg hd 29 32 (by kernel_rfl) fun u1 e1 g1 h1 => ?_
        replace g1 : u1 = .bool false := g1
        subst g1
        have e1' := get_of_getD e1
        go_simp
        exact hK _ _ rfl (hW.upd 30 _ ⟨fun e => absurd e (by decide), trivial⟩)
      · intro r a w' hf hg hW hr hd K hK
        refine hf.depE hg hd 16 19 (by kernel_rfl) fun uG eG gG _ => ?_
        replace gG : uG = .bool false := gG
        subst gG
        refine wpOp_run rfl rfl rfl rfl eG ?_
        refine hf.depE hg hd 21 24 (by kernel_rfl) fun u0 e0 g0 h0 => ?_
        replace g0 : u0 = .bool true := g0
        subst g0
        have e0' := get_of_getD e0
        refine hf.depE hg hd 30 33 (by kernel_rfl) fun u1 e1 g1 h1 => ?_
        replace g1 : u1 = .bool false := g1
        subst g1
        have e1' := get_of_getD e1
        go_simp
        exact hK _ _ rfl (hW.upd 31 _ ⟨fun e => absurd e (by decide), trivial⟩)
      · intro r a w' hf hg hW hr hd K hK
        refine wpOp_of rfl rfl ?_
        refine hf.depE hg hd 16 19 (by kernel_rfl) fun u0 e0 g0 h0 => ?_
        replace g0 : u0 = .bool false := g0
        subst g0
        have e0' := get_of_getD e0
        refine hf.depE hg hd 31 34 (by kernel_rfl) fun u1 e1 g1 h1 => ?_
        replace g1 : u1 = .bool false := g1
        subst g1
        have e1' := get_of_getD e1
        go_simp
        exact hK _ _ rfl (hW.upd 32 _ ⟨fun e => absurd e (by decide), trivial⟩)
    intro r' w3 hg hW hr'
    have hkN := hW.kp
    obtain ⟨q32, hq32⟩ : ∃ u, r' 32 = some u := Option.ne_none_iff_exists'.1 (hr' 32 (by decide))
    have hk32 := hg 32 q32 hq32
    replace hk32 : q32 = .bool false := hk32
    subst hk32
    simp only [List.length_cons, List.length_nil, Nat.reduceAdd, List.range_succ, List.range_zero, List.nil_append, List.cons_append, List.map_cons, List.map_nil, putAll, Act.put, List.setIfInBounds_toArray, List.set_cons_succ, List.set_cons_zero, hq32, Option.getD_some]
    clear hg hW hr' FS hq32
    replace c1 := hkN.cell c1 id
    replace c2a := hkN.cell c2a id
    have KN := Lib.hid hkN
    clear hkN c0
    go_wp2_with fail
    refine (CM.out _ KN.out).mono ?_
    rintro _ w4 ⟨z, rfl, hz, k4⟩
    have HZ := Lib.hid hz
    have K4 := Lib.hid (KN.out.tr k4)
    clear hz k4
    go_wp2_with fail
    refine (OF.out _ K4.out).mono ?_
    rintro _ w5 ⟨u, rfl, hu, k5⟩
    have K5 := Lib.hid (K4.out.tr k5)
    have O3 := Lib.hid (O2.out z u w5 (HZ.out.no k5) hu.1)
    clear hu k5
    go_wp2_with fail
    refine O3.out.mono ?_
    rintro _ w6 ⟨rfl, rfl⟩
    rw [cmpN_one]
    go_wp2_with fail
    go_ret
    exact ⟨rfl, FIN.out _ K5.out⟩
end Go.Proofs.YtakgcnjpmpcekaaGreat
