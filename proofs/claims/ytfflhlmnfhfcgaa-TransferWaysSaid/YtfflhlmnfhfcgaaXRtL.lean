/- Chapter 33: the walk of the statement TransferWays. -/
import Derived.Test.YtfflhlmnfhfcgaaXRtW
import Derived.Test.YtfflhlmnfhfcgaaXLibHvM
namespace Go.Proofs.Ytfflhlmnfhfcgaa
open Go.RowKit Go.Kq

theorem routeV_ok {xs ys : List Vc} (h : (routeV xs ys).err = 0) : chk xs ys 14 = 0 ∧ (divs xs).length ≤ 4 ∧ routeV xs ys = ⟨divs xs, bestR (allC xs ys), 0⟩ := by
  unfold routeV at h ⊢
  split
  · rename_i h1
    rw [if_pos h1] at h
    exact absurd h h1
  · rename_i h1
    rw [if_neg h1] at h
    split
    · rename_i h2
      rw [if_pos h2] at h
      cases h
    · exact ⟨by omega, by omega, rfl⟩
theorem csum_bd {xs ys : List Vc} (hx : xs.length ≤ 24) (hy : ys.length ≤ 14) (gx : ∀ v ∈ xs, v.bad = false) (gy : ∀ v ∈ ys, v.bad = false) : ∀ (F : List Nat) (ts : List Int), (∀ f ∈ F, f < 6) → 0 ≤ csum xs ys F ts ∧ csum xs ys F ts ≤ 560000000 * F.length
  | [], ts, _ => by simp [csum]
  | f :: F, [], _ => by simp [csum]; omega
  | f :: F, t :: ts, h => by
    have h1 := cho_facts (t := t) hx hy gx gy (f := f) ⟨by omega, by have := h f (by simp); omega⟩
    have h2 := csum_bd hx hy gx gy F ts fun g hg => h g (by simp [hg])
    simp only [csum, List.length_cons]
    omega
theorem okS_congr {X Y : List Int} {n : Nat} (h : ∀ i, i < n → X.getD i 0 = Y.getD i 0) : okS X n = okS Y n := by
  rw [Bool.eq_iff_iff, okS_iff, okS_iff]
  constructor
  · intro g i hi k hk
    rw [← h i hi, ← h k (by omega)]
    exact g i hi k hk
  · intro g i hi k hk
    rw [h i hi, h k (by omega)]
    exact g i hi k hk
theorem and7 (x : Int) (h : -128 ≤ x ∧ x ≤ 127) : 0 ≤ bits .and .i64 x 7 ∧ bits .and .i64 x 7 ≤ 7 := by
  have key : ∀ n : Nat, n < 256 → 0 ≤ bits .and .i64 ((n : Int) - 128) 7 ∧ bits .and .i64 ((n : Int) - 128) 7 ≤ 7 := of_decide_eq_true (by kernel_rfl)
  have := key (x + 128).toNat (by omega)
  rwa [show (((x + 128).toNat : Nat) : Int) - 128 = x by omega] at this
set_option maxHeartbeats 8000000 in
set_option maxRecDepth 100000 in
theorem tways_any (A Y : Option Addr) (n m ca cb : Nat) (xs ys : List Vc) (x0 x1 x2 x3 x4 : Int) (w : World) (hx : RdV w A n xs) (hy : RdV w Y m ys) (b0 : -128 ≤ x0 ∧ x0 ≤ 127) (b1 : -128 ≤ x1 ∧ x1 ≤ 127) (b2 : -128 ≤ x2 ∧ x2 ≤ 127) (b3 : -128 ≤ x3 ∧ x3 ≤ 127) (b4 : -128 ≤ x4 ∧ x4 ≤ 127) :
    Calls Try.prog 8 #[.slice A n ca, .slice Y m cb, .agg #[.int .i8 x0, .int .i8 x1, .int .i8 x2, .int .i8 x3, .int .i8 x4]] w fun e w' => e = .returned (.bool true) ∧ Kp No w w' := by
  have hxl := hx.1
  have hyl := hy.1
  by_cases he : (routeV xs ys).err = 0
  · obtain ⟨hk, hD4, hrv⟩ := routeV_ok he
    obtain ⟨z1, z2, gx, gy⟩ := chk_zero hk
    obtain ⟨r1, r2, r3, r4⟩ := route_is hk
    have hd6 : ∀ f ∈ divs xs, f < 6 := fun f hf => ((divs_mem xs f).1 hf).1
    have HCB := Lib.hid (csum_bd z1 (by omega) gx gy)
    clear he gx gy
    generalize bestR (allC xs ys) = R at r1 r2 r3 r4 hrv
    obtain ⟨F, hF⟩ : ∃ F, F = divs xs := ⟨_, rfl⟩
    rw [← hF] at r1 r2 r3 r4 hD4 hd6 hrv
    obtain ⟨D, hD⟩ : ∃ D, D = F.length := ⟨_, rfl⟩
    rw [← hD] at r1 r3 r4 hD4
    have HD := Lib.hid hD
    have HRV := Lib.hid hrv
    have HK := Lib.hid hk
    have H2 := Lib.hid r2
    have H3 := Lib.hid r3
    have H4 := Lib.hid r4
    have H6 := Lib.hid hd6
    have H1 := Lib.hid r1
    clear hrv hk r2 r3 r4 hF hd6 hD
    obtain ⟨X, hX⟩ : ∃ X, X = [x0, x1, x2, x3, x4] := ⟨_, rfl⟩
    have HXL := Lib.hid (show X.length = 5 by rw [hX]; rfl)
    have HXB : ∀ i, Hid (-128 ≤ X.getD i 0 ∧ X.getD i 0 ≤ 127) := fun i => Lib.hid (by
      rw [hX]
      match i with
      | 0 => exact b0
      | 1 => exact b1
      | 2 => exact b2
      | 3 => exact b3
      | 4 => exact b4
      | i + 5 => simp)
    have hcx : ∀ (w' : World) (b : Nat), w'.heap[b]? = some (.cells #[.int .i8 x0, .int .i8 x1, .int .i8 x2, .int .i8 x3, .int .i8 x4] 55 (0, 0)) → ∀ i, i < 5 → w'.cell? ⟨b, i, none⟩ = some (.int .i8 (X.getD i 0)) := fun w' b h i hi => by
      rw [hX, cell_heap h]
      match i, hi with
      | 0, _ => rfl
      | 1, _ => rfl
      | 2, _ => rfl
      | 3, _ => rfl
      | 4, _ => rfl
      | i + 5, hi => omega
    have HCX := Lib.hid hcx
    have HX4 := Lib.hid (show X.getD 4 0 = x4 by rw [hX]; rfl)
    clear hX hcx
    have ro : RtV := routeV xs ys
    go_enter Try.func8, Try.ntmps8
    go_wp2_with fail
    refine (Route_any A Y n m ca cb xs ys _ (hx.no (Kp.alloc _ _ _)) (hy.no (Kp.alloc _ _ _))).mono ?_
    rw [HRV.out]
    rintro e w1 ⟨vF, vT, vS, rfl, ⟨m1, m2, m3⟩, hk1⟩
    replace m1 : w1.ownsRow _ 3 1 vF F.length (F.map natV) := m1
    replace m2 : w1.ownsRow _ 3 1 vT R.to.length (R.to.map (Value.int .i64)) := m2
    replace m3 : w1.ownsRow _ 3 1 vS R.stops.length (R.stops.map natV) := m3
    rw [← HD.out] at m1
    rw [H1.out] at m2
    obtain ⟨aF, cF, rfl, _, _, haF⟩ := Go.Kq.own_form m1
    obtain ⟨aT, cT, rfl, _, _, haT⟩ := Go.Kq.own_form m2
    obtain ⟨aS, cS, rfl, _, _, _⟩ := Go.Kq.own_form m3
    have hb5 := hk1.heap (heap_alloc_new w (.cells #[.int .i8 x0, .int .i8 x1, .int .i8 x2, .int .i8 x3, .int .i8 x4] 55)) id
    have HM1 := Lib.hid m1
    have HM2 := Lib.hid m2
    have HB5 := Lib.hid hb5
    have hkw1 : Kp No w w1 := (Kp.alloc No w (.cells #[.int .i8 x0, .int .i8 x1, .int .i8 x2, .int .i8 x3, .int .i8 x4] 55)).tr hk1
    clear m1 m2 m3 hb5 hk1
    go_wp2_with fail
    have hb7' := heap_alloc_new w1 (.cells #[.slice aF D cF, .slice aT D cT, .slice aS R.stops.length cS, .int .i64 R.cost] 51)
    refine (Check_any A Y n m ca cb xs ys 14 _ (hx.no (hkw1.tr (Kp.alloc _ _ _))) (hy.no (hkw1.tr (Kp.alloc _ _ _))) (by omega)).mono ?_
    rw [HK.out]
    rintro e w2 ⟨rfl, hk2⟩
    have hb7 := hk2.heap hb7' id
    have hb5 := ((Kp.alloc _ _ _).tr hk2).heap HB5.out id
    have hm1 := ((Kp.alloc No w1 _).tr hk2).owns HM1.out fun _ _ h => h
    have hm2 := ((Kp.alloc No w1 _).tr hk2).owns HM2.out fun _ _ h => h
    have hkw2 : Kp No w w2 := hkw1.tr ((Kp.alloc _ _ _).tr hk2)
    have d0 : w2.cell? ⟨w1.heap.size, 0, none⟩ = some (.slice aF D cF) := cell_heap hb7 0
    have d1 : w2.cell? ⟨w1.heap.size, 1, none⟩ = some (.slice aT D cT) := cell_heap hb7 1
    have hDD : ((D : Int) == (D : Int)) = true := beq_self_eq_true _
    have hD4b : decide ((4 : Int) < (D : Int)) = false := decide_eq_false (by omega)
    have HB7 := Lib.hid hb7
    have HE5 := Lib.hid hb5
    have HM1' := Lib.hid hm1
    have HM2' := Lib.hid hm2
    clear hb7' hb7 hb5 hm1 hm2 hk2 HM1 HM2 HB5 hkw1
    go_wp2_with fail
    clear d0 d1 hDD hD4b
    go_loopw [9, 10, 11, 12] (fun vo vt vb vi wr => ∃ k : Nat, k ≤ D ∧ vi = .int .i64 k ∧ vo = .int .i64 (csum xs ys (F.take k) (R.to.take k)) ∧ vt = .int .i64 (csum xs ys (F.take k) (X.take k)) ∧ vb = .bool (okS X k) ∧ Kp No w2 wr) (fun _ _ _ vi _ => D - (intOf vi).toNat)
    case atStart => exact ⟨0, by omega, rfl, rfl, rfl, rfl, Kp.refl _ _⟩
    case round =>
      obtain ⟨k, hkD, rfl, rfl, rfl, rfl, hkp⟩ := hrel
      have d0 : wr.cell? ⟨w1.heap.size, 0, none⟩ = some (.slice aF D cF) := hkp.cell (cell_heap HB7.out 0) id
      have d1 : wr.cell? ⟨w1.heap.size, 1, none⟩ = some (.slice aT D cT) := hkp.cell (cell_heap HB7.out 1) id
      by_cases hlt : k < D
      · obtain ⟨gF, rfl⟩ := haF (by omega)
        obtain ⟨gT, rfl⟩ := haT (by omega)
        obtain ⟨f, hf⟩ : ∃ f, F[k]? = some f := ⟨_, List.getElem?_eq_getElem (by rw [← HD.out]; exact hlt)⟩
        obtain ⟨t, ht⟩ : ∃ t, R.to[k]? = some t := ⟨_, List.getElem?_eq_getElem (by rw [H1.out]; exact hlt)⟩
        obtain ⟨x, hxk⟩ : ∃ x, X[k]? = some x := ⟨_, List.getElem?_eq_getElem (by rw [HXL.out]; omega)⟩
        have cF0 : wr.cell? ⟨gF, k, none⟩ = some (.int .i64 (f : Int)) := hkp.cell (Go.Kq.own_cell HM1'.out (by rw [List.getElem?_map, hf]; rfl)) id
        have cT0 : wr.cell? ⟨gT, k, none⟩ = some (.int .i64 t) := hkp.cell (Go.Kq.own_cell HM2'.out (by rw [List.getElem?_map, ht]; rfl)) id
        have cX0 : wr.cell? ⟨w.heap.size, k, none⟩ = some (.int .i8 x) := by
          have h := HCX.out wr w.heap.size (hkp.heap HE5.out id) k (by omega)
          rwa [show X.getD k 0 = x by simp [hxk]] at h
        have hxb := (HXB k).out
        rw [show X.getD k 0 = x by simp [hxk]] at hxb
        have hk5 : (k : Int) < 5 := by omega
        have hwx : IntKind.i64.wrap x = x := IntWalk.i64_in _ (by omega)
        have hf6 := H6.out f (List.mem_of_getElem? hf)
        have HS1 := Lib.hid (csum_snoc (xs := xs) (ys := ys) F R.to k f t hf ht)
        have HS2 := Lib.hid (csum_snoc (xs := xs) (ys := ys) F X k f x hf hxk)
        have hc1 := HCB.out (F.take k) (R.to.take k) fun g hg => H6.out g (List.mem_of_mem_take hg)
        have hc2 := HCB.out (F.take k) (X.take k) fun g hg => H6.out g (List.mem_of_mem_take hg)
        have hc3 := HCB.out (F.take (k + 1)) (R.to.take (k + 1)) fun g hg => H6.out g (List.mem_of_mem_take hg)
        have hc4 := HCB.out (F.take (k + 1)) (X.take (k + 1)) fun g hg => H6.out g (List.mem_of_mem_take hg)
        rw [HS1.out] at hc3
        rw [HS2.out] at hc4
        have hl1 := List.length_take_le k F
        have hl2 := List.length_take_le (k + 1) F
        have HT := Lib.hid ht
        have HXK := Lib.hid hxk
        clear hf ht hxk
        generalize csum xs ys (F.take k) (R.to.take k) = s1 at *
        generalize csum xs ys (F.take k) (X.take k) = s2 at *
        have HPA := Lib.hid (fun (w' : World) (u : Int) (hk' : Kp No wr w') => pair_any A Y n m ca cb xs ys (f : Int) u w' (hx.no (hkw2.tr (hkp.tr hk'))) (hy.no (hkw2.tr (hkp.tr hk'))) HK.out ⟨by omega, by omega⟩)
        obtain ⟨p1, hp1⟩ : ∃ p, p = (cho xs ys f t).cost := ⟨_, rfl⟩
        obtain ⟨p2, hp2⟩ : ∃ p, p = (cho xs ys f x).cost := ⟨_, rfl⟩
        rw [← hp1] at HS1 hc3
        rw [← hp2] at HS2 hc4
        have HP1 := Lib.hid hp1
        have HP2 := Lib.hid hp2
        clear hp1 hp2
        go_wp2_with fail
        have FS : Stab (fun ix wz u => True) := fun ix u wz wz' kz h => trivial
        replace FS := Lib.hid FS
        refine wp_region_each (fun ix u => match ix with | 0 => u = .slice A n ca | 1 => u = .slice Y m cb | 2 => u = .pointer (some ⟨w1.heap.size, 0, none⟩) | 3 => u = .slice (some ⟨gF, 0, none⟩) D cF | 4 => u = .int .i64 (k : Int) | 5 => u = .pointer (some ⟨gF, k, none⟩) | 6 => u = .int .i64 (f : Int) | 7 => u = .pointer (some ⟨w1.heap.size, 1, none⟩) | 8 => u = .slice (some ⟨gT, 0, none⟩) D cT | 9 => u = .int .i64 (k : Int) | 10 => u = .pointer (some ⟨gT, k, none⟩) | 11 => u = .int .i64 t | 12 => u = .tuple #[.int .i64 p1, .int .i64 0] | 13 => u = .tuple #[.int .i64 p1, .int .i64 0] | 14 => u = .int .i64 p1 | 15 => u = .int .i64 0 | 16 => u = .int .i64 p1 | 17 => u = .int .i64 0 | _ => True) (HvW wr (fun ix wz u => True)) (by kernel_rfl) (by kernel_rfl) (by kernel_rfl) ?_ ?_ ?_
        · exact HvW.start _ _
        · refine ⟨?_, ?_, ?_, ?_, ?_, ?_, ?_, ?_, ?_, ?_, ?_, ?_, ?_, ?_, ?_, ?_, ?_, ?_, trivial⟩
          · intro r a w' hf hg hW hr hd K hK
            refine wpOp_of rfl rfl ?_
            have e0 : a.tmps.getD 0 undef = .slice A n ca := hf.evalFree (by kernel_rfl)
            go_simp
            exact hK _ _ rfl (hW.upd 0 _ trivial)
          · intro r a w' hf hg hW hr hd K hK
            refine wpOp_of rfl rfl ?_
            have e0 : a.tmps.getD 1 undef = .slice Y m cb := hf.evalFree (by kernel_rfl)
            go_simp
            exact hK _ _ rfl (hW.upd 1 _ trivial)
          · intro r a w' hf hg hW hr hd K hK
            refine wpOp_of rfl rfl ?_
            have e0 : a.tmps.getD 7 undef = .pointer (some ⟨w1.heap.size, 0, none⟩) := hf.evalFree (by kernel_rfl)
            go_simp
            exact hK _ _ rfl (hW.upd 2 _ trivial)
          · intro r a w' hf hg hW hr hd K hK
            refine wpOp_of rfl rfl ?_
            refine hf.depE hg hd 2 63 (by kernel_rfl) fun u0 e0 g0 h0 => ?_
            replace g0 : u0 = .pointer (some ⟨w1.heap.size, 0, none⟩) := g0
            subst g0
            have z0 := hW.kp.cell d0 id
            go_simp
            exact hK _ _ rfl (hW.upd 3 _ trivial)
          · intro r a w' hf hg hW hr hd K hK
            refine wpOp_of rfl rfl ?_
            have e0 : a.tmps.getD 12 undef = .int .i64 (k : Int) := hf.evalFree (by kernel_rfl)
            go_simp
            exact hK _ _ rfl (hW.upd 4 _ trivial)
          · intro r a w' hf hg hW hr hd K hK
            refine wpOp_of rfl rfl ?_
            refine hf.depE hg hd 3 64 (by kernel_rfl) fun u0 e0 g0 h0 => ?_
            replace g0 : u0 = .slice (some ⟨gF, 0, none⟩) D cF := g0
            subst g0
            refine hf.depE hg hd 4 65 (by kernel_rfl) fun u1 e1 g1 h1 => ?_
            replace g1 : u1 = .int .i64 (k : Int) := g1
            subst g1
            go_simp
            exact hK _ _ rfl (hW.upd 5 _ trivial)
          · intro r a w' hf hg hW hr hd K hK
            refine wpOp_of rfl rfl ?_
            refine hf.depE hg hd 5 66 (by kernel_rfl) fun u0 e0 g0 h0 => ?_
            replace g0 : u0 = .pointer (some ⟨gF, k, none⟩) := g0
            subst g0
            have z0 := hW.kp.cell cF0 id
            go_simp
            exact hK _ _ rfl (hW.upd 6 _ trivial)
          · intro r a w' hf hg hW hr hd K hK
            refine wpOp_of rfl rfl ?_
            have e0 : a.tmps.getD 7 undef = .pointer (some ⟨w1.heap.size, 0, none⟩) := hf.evalFree (by kernel_rfl)
            go_simp
            exact hK _ _ rfl (hW.upd 7 _ trivial)
          · intro r a w' hf hg hW hr hd K hK
            refine wpOp_of rfl rfl ?_
            refine hf.depE hg hd 7 68 (by kernel_rfl) fun u0 e0 g0 h0 => ?_
            replace g0 : u0 = .pointer (some ⟨w1.heap.size, 1, none⟩) := g0
            subst g0
            have z0 := hW.kp.cell d1 id
            go_simp
            exact hK _ _ rfl (hW.upd 8 _ trivial)
          · intro r a w' hf hg hW hr hd K hK
            refine wpOp_of rfl rfl ?_
            have e0 : a.tmps.getD 12 undef = .int .i64 (k : Int) := hf.evalFree (by kernel_rfl)
            go_simp
            exact hK _ _ rfl (hW.upd 9 _ trivial)
          · intro r a w' hf hg hW hr hd K hK
            refine wpOp_of rfl rfl ?_
            refine hf.depE hg hd 8 69 (by kernel_rfl) fun u0 e0 g0 h0 => ?_
            replace g0 : u0 = .slice (some ⟨gT, 0, none⟩) D cT := g0
            subst g0
            refine hf.depE hg hd 9 70 (by kernel_rfl) fun u1 e1 g1 h1 => ?_
            replace g1 : u1 = .int .i64 (k : Int) := g1
            subst g1
            go_simp
            exact hK _ _ rfl (hW.upd 10 _ trivial)
          · intro r a w' hf hg hW hr hd K hK
            refine wpOp_of rfl rfl ?_
            refine hf.depE hg hd 10 71 (by kernel_rfl) fun u0 e0 g0 h0 => ?_
            replace g0 : u0 = .pointer (some ⟨gT, k, none⟩) := g0
            subst g0
            have z0 := hW.kp.cell cT0 id
            go_simp
            exact hK _ _ rfl (hW.upd 11 _ trivial)
          · intro r a w' hf hg hW hr hd K hK
            refine wpOp_of rfl rfl ?_
            refine hf.depE hg hd 0 61 (by kernel_rfl) fun u0 e0 g0 h0 => ?_
            replace g0 : u0 = .slice A n ca := g0
            subst g0
            refine hf.depE hg hd 1 62 (by kernel_rfl) fun u1 e1 g1 h1 => ?_
            replace g1 : u1 = .slice Y m cb := g1
            subst g1
            refine hf.depE hg hd 6 67 (by kernel_rfl) fun u2 e2 g2 h2 => ?_
            replace g2 : u2 = .int .i64 (f : Int) := g2
            subst g2
            refine hf.depE hg hd 11 72 (by kernel_rfl) fun u3 e3 g3 h3 => ?_
            replace g3 : u3 = .int .i64 t := g3
            subst g3
            go_simp
            refine (HPA.out w' t hW.kp).mono ?_
            rintro e w'' ⟨rfl, k2⟩
            rw [← HP1.out]
            exact hK _ _ rfl ((hW.call FS.out k2).upd 12 _ trivial)
          · intro r a w' hf hg hW hr hd K hK
            refine wpOp_of rfl rfl ?_
            refine hf.depE hg hd 12 73 (by kernel_rfl) fun u0 e0 g0 h0 => ?_
            replace g0 : u0 = .tuple #[.int .i64 p1, .int .i64 0] := g0
            subst g0
            go_simp
            exact hK _ _ rfl (hW.upd 13 _ trivial)
          · intro r a w' hf hg hW hr hd K hK
            refine wpOp_of rfl rfl ?_
            refine hf.depE hg hd 13 60 (by kernel_rfl) fun u0 e0 g0 h0 => ?_
            replace g0 : u0 = .tuple #[.int .i64 p1, .int .i64 0] := g0
            subst g0
            go_simp
            exact hK _ _ rfl (hW.upd 14 _ trivial)
          · intro r a w' hf hg hW hr hd K hK
            refine wpOp_of rfl rfl ?_
            refine hf.depE hg hd 13 60 (by kernel_rfl) fun u0 e0 g0 h0 => ?_
            replace g0 : u0 = .tuple #[.int .i64 p1, .int .i64 0] := g0
            subst g0
            go_simp
            exact hK _ _ rfl (hW.upd 15 _ trivial)
          · intro r a w' hf hg hW hr hd K hK
            refine wpOp_of rfl rfl ?_
            refine hf.depE hg hd 14 74 (by kernel_rfl) fun u0 e0 g0 h0 => ?_
            replace g0 : u0 = .int .i64 p1 := g0
            subst g0
            go_simp
            exact hK _ _ rfl (hW.upd 16 _ trivial)
          · intro r a w' hf hg hW hr hd K hK
            refine wpOp_of rfl rfl ?_
            refine hf.depE hg hd 15 75 (by kernel_rfl) fun u0 e0 g0 h0 => ?_
            replace g0 : u0 = .int .i64 0 := g0
            subst g0
            go_simp
            exact hK _ _ rfl (hW.upd 17 _ trivial)
        intro r' w3 hg hW hr'
        have hkN := hW.kp
        obtain ⟨q16, hq16⟩ : ∃ u, r' 16 = some u := Option.ne_none_iff_exists'.1 (hr' 16 (by decide))
        have hk16 := hg 16 q16 hq16
        replace hk16 : q16 = .int .i64 p1 := hk16
        subst hk16
        obtain ⟨q17, hq17⟩ : ∃ u, r' 17 = some u := Option.ne_none_iff_exists'.1 (hr' 17 (by decide))
        have hk17 := hg 17 q17 hq17
        replace hk17 : q17 = .int .i64 0 := hk17
        subst hk17
        simp only [List.length_cons, List.length_nil, Nat.reduceAdd, List.range_succ, List.range_zero, List.nil_append, List.cons_append, List.map_cons, List.map_nil, putAll, Act.put, List.setIfInBounds_toArray, List.set_cons_succ, List.set_cons_zero, hq16, hq17, Option.getD_some]
        clear hg hW hr' FS hq16 hq17
        go_wp2_with fail
        have FS : Stab (fun ix wz u => True) := fun ix u wz wz' kz h => trivial
        replace FS := Lib.hid FS
        refine wp_region_each (fun ix u => match ix with | 0 => u = .slice A n ca | 1 => u = .slice Y m cb | 2 => u = .pointer (some ⟨w1.heap.size, 0, none⟩) | 3 => u = .slice (some ⟨gF, 0, none⟩) D cF | 4 => u = .int .i64 (k : Int) | 5 => u = .pointer (some ⟨gF, k, none⟩) | 6 => u = .int .i64 (f : Int) | 7 => u = .int .i64 (k : Int) | 8 => u = .pointer (some ⟨w.heap.size, k, none⟩) | 9 => u = .int .i8 x | 10 => u = .int .i64 x | 11 => u = .tuple #[.int .i64 p2, .int .i64 0] | 12 => u = .tuple #[.int .i64 p2, .int .i64 0] | 13 => u = .int .i64 p2 | 14 => u = .int .i64 0 | 15 => u = .int .i64 p2 | 16 => u = .int .i64 0 | _ => True) (HvW w3 (fun ix wz u => True)) (by kernel_rfl) (by kernel_rfl) (by kernel_rfl) ?_ ?_ ?_
        · exact HvW.start _ _
        · refine ⟨?_, ?_, ?_, ?_, ?_, ?_, ?_, ?_, ?_, ?_, ?_, ?_, ?_, ?_, ?_, ?_, ?_, trivial⟩
          · intro r a w' hf hg hW hr hd K hK
            refine wpOp_of rfl rfl ?_
            have e0 : a.tmps.getD 0 undef = .slice A n ca := hf.evalFree (by kernel_rfl)
            go_simp
            exact hK _ _ rfl (hW.upd 0 _ trivial)
          · intro r a w' hf hg hW hr hd K hK
            refine wpOp_of rfl rfl ?_
            have e0 : a.tmps.getD 1 undef = .slice Y m cb := hf.evalFree (by kernel_rfl)
            go_simp
            exact hK _ _ rfl (hW.upd 1 _ trivial)
          · intro r a w' hf hg hW hr hd K hK
            refine wpOp_of rfl rfl ?_
            have e0 : a.tmps.getD 7 undef = .pointer (some ⟨w1.heap.size, 0, none⟩) := hf.evalFree (by kernel_rfl)
            go_simp
            exact hK _ _ rfl (hW.upd 2 _ trivial)
          · intro r a w' hf hg hW hr hd K hK
            refine wpOp_of rfl rfl ?_
            refine hf.depE hg hd 2 79 (by kernel_rfl) fun u0 e0 g0 h0 => ?_
            replace g0 : u0 = .pointer (some ⟨w1.heap.size, 0, none⟩) := g0
            subst g0
            have z0 := hW.kp.cell (hkN.cell d0 id) id
            go_simp
            exact hK _ _ rfl (hW.upd 3 _ trivial)
          · intro r a w' hf hg hW hr hd K hK
            refine wpOp_of rfl rfl ?_
            have e0 : a.tmps.getD 12 undef = .int .i64 (k : Int) := hf.evalFree (by kernel_rfl)
            go_simp
            exact hK _ _ rfl (hW.upd 4 _ trivial)
          · intro r a w' hf hg hW hr hd K hK
            refine wpOp_of rfl rfl ?_
            refine hf.depE hg hd 3 80 (by kernel_rfl) fun u0 e0 g0 h0 => ?_
            replace g0 : u0 = .slice (some ⟨gF, 0, none⟩) D cF := g0
            subst g0
            refine hf.depE hg hd 4 81 (by kernel_rfl) fun u1 e1 g1 h1 => ?_
            replace g1 : u1 = .int .i64 (k : Int) := g1
            subst g1
            go_simp
            exact hK _ _ rfl (hW.upd 5 _ trivial)
          · intro r a w' hf hg hW hr hd K hK
            refine wpOp_of rfl rfl ?_
            refine hf.depE hg hd 5 82 (by kernel_rfl) fun u0 e0 g0 h0 => ?_
            replace g0 : u0 = .pointer (some ⟨gF, k, none⟩) := g0
            subst g0
            have z0 := hW.kp.cell (hkN.cell cF0 id) id
            go_simp
            exact hK _ _ rfl (hW.upd 6 _ trivial)
          · intro r a w' hf hg hW hr hd K hK
            refine wpOp_of rfl rfl ?_
            have e0 : a.tmps.getD 12 undef = .int .i64 (k : Int) := hf.evalFree (by kernel_rfl)
            go_simp
            exact hK _ _ rfl (hW.upd 7 _ trivial)
          · intro r a w' hf hg hW hr hd K hK
            refine wpOp_of rfl rfl ?_
            have e0 : a.tmps.getD 5 undef = .pointer (some ⟨w.heap.size, 0, none⟩) := hf.evalFree (by kernel_rfl)
            refine hf.depE hg hd 7 84 (by kernel_rfl) fun u1 e1 g1 h1 => ?_
            replace g1 : u1 = .int .i64 (k : Int) := g1
            subst g1
            go_simp
            exact hK _ _ rfl (hW.upd 8 _ trivial)
          · intro r a w' hf hg hW hr hd K hK
            refine wpOp_of rfl rfl ?_
            refine hf.depE hg hd 8 85 (by kernel_rfl) fun u0 e0 g0 h0 => ?_
            replace g0 : u0 = .pointer (some ⟨w.heap.size, k, none⟩) := g0
            subst g0
            have z0 := hW.kp.cell (hkN.cell cX0 id) id
            go_simp
            exact hK _ _ rfl (hW.upd 9 _ trivial)
          · intro r a w' hf hg hW hr hd K hK
            refine wpOp_of rfl rfl ?_
            refine hf.depE hg hd 9 86 (by kernel_rfl) fun u0 e0 g0 h0 => ?_
            replace g0 : u0 = .int .i8 x := g0
            subst g0
            go_simp
            exact hK _ _ rfl (hW.upd 10 _ trivial)
          · intro r a w' hf hg hW hr hd K hK
            refine wpOp_of rfl rfl ?_
            refine hf.depE hg hd 0 77 (by kernel_rfl) fun u0 e0 g0 h0 => ?_
            replace g0 : u0 = .slice A n ca := g0
            subst g0
            refine hf.depE hg hd 1 78 (by kernel_rfl) fun u1 e1 g1 h1 => ?_
            replace g1 : u1 = .slice Y m cb := g1
            subst g1
            refine hf.depE hg hd 6 83 (by kernel_rfl) fun u2 e2 g2 h2 => ?_
            replace g2 : u2 = .int .i64 (f : Int) := g2
            subst g2
            refine hf.depE hg hd 10 87 (by kernel_rfl) fun u3 e3 g3 h3 => ?_
            replace g3 : u3 = .int .i64 x := g3
            subst g3
            go_simp
            refine (HPA.out w' x (hkN.tr hW.kp)).mono ?_
            rintro e w'' ⟨rfl, k2⟩
            rw [← HP2.out]
            exact hK _ _ rfl ((hW.call FS.out k2).upd 11 _ trivial)
          · intro r a w' hf hg hW hr hd K hK
            refine wpOp_of rfl rfl ?_
            refine hf.depE hg hd 11 88 (by kernel_rfl) fun u0 e0 g0 h0 => ?_
            replace g0 : u0 = .tuple #[.int .i64 p2, .int .i64 0] := g0
            subst g0
            go_simp
            exact hK _ _ rfl (hW.upd 12 _ trivial)
          · intro r a w' hf hg hW hr hd K hK
            refine wpOp_of rfl rfl ?_
            refine hf.depE hg hd 12 76 (by kernel_rfl) fun u0 e0 g0 h0 => ?_
            replace g0 : u0 = .tuple #[.int .i64 p2, .int .i64 0] := g0
            subst g0
            go_simp
            exact hK _ _ rfl (hW.upd 13 _ trivial)
          · intro r a w' hf hg hW hr hd K hK
            refine wpOp_of rfl rfl ?_
            refine hf.depE hg hd 12 76 (by kernel_rfl) fun u0 e0 g0 h0 => ?_
            replace g0 : u0 = .tuple #[.int .i64 p2, .int .i64 0] := g0
            subst g0
            go_simp
            exact hK _ _ rfl (hW.upd 14 _ trivial)
          · intro r a w' hf hg hW hr hd K hK
            refine wpOp_of rfl rfl ?_
            refine hf.depE hg hd 13 89 (by kernel_rfl) fun u0 e0 g0 h0 => ?_
            replace g0 : u0 = .int .i64 p2 := g0
            subst g0
            go_simp
            exact hK _ _ rfl (hW.upd 15 _ trivial)
          · intro r a w' hf hg hW hr hd K hK
            refine wpOp_of rfl rfl ?_
            refine hf.depE hg hd 14 90 (by kernel_rfl) fun u0 e0 g0 h0 => ?_
            replace g0 : u0 = .int .i64 0 := g0
            subst g0
            go_simp
            exact hK _ _ rfl (hW.upd 16 _ trivial)
        intro r' w4 hg hW hr'
        have hkM := hW.kp
        obtain ⟨q15, hq15⟩ : ∃ u, r' 15 = some u := Option.ne_none_iff_exists'.1 (hr' 15 (by decide))
        have hk15 := hg 15 q15 hq15
        replace hk15 : q15 = .int .i64 p2 := hk15
        subst hk15
        obtain ⟨q16, hq16⟩ : ∃ u, r' 16 = some u := Option.ne_none_iff_exists'.1 (hr' 16 (by decide))
        have hk16 := hg 16 q16 hq16
        replace hk16 : q16 = .int .i64 0 := hk16
        subst hk16
        simp only [List.length_cons, List.length_nil, Nat.reduceAdd, List.range_succ, List.range_zero, List.nil_append, List.cons_append, List.map_cons, List.map_nil, putAll, Act.put, List.setIfInBounds_toArray, List.set_cons_succ, List.set_cons_zero, hq15, hq16, Option.getD_some]
        clear hg hW hr' FS hq15 hq16
        have hkw4 := (hkp.tr hkN).tr hkM
        clear d0 d1 cF0 cT0 cX0
        go_wp2_with fail
        obtain ⟨wo, rfl⟩ : ∃ wo : World, wo = wr := ⟨_, rfl⟩
        go_loopw [11, 17] (fun vb vj wr => ∃ j : Nat, j ≤ k ∧ vj = .int .i64 j ∧ vb = .bool (okS X k && okR X k j) ∧ Kp No w4 wr) (fun _ vj _ => k - (intOf vj).toNat)
        case atStart => exact ⟨0, by omega, rfl, by simp [okR], Kp.refl _ _⟩
        case round =>
          obtain ⟨j, hjk, rfl, rfl, hkq⟩ := hrel
          by_cases hltj : j < k
          · have hj5 : (j : Int) < 5 := by omega
            obtain ⟨y, hyj⟩ : ∃ y, X[j]? = some y := ⟨_, List.getElem?_eq_getElem (by rw [HXL.out]; omega)⟩
            obtain ⟨t', htj⟩ : ∃ t', R.to[j]? = some t' := ⟨_, List.getElem?_eq_getElem (by rw [H1.out]; omega)⟩
            have hkqw := hkw4.tr hkq
            have cXk : wr.cell? ⟨w.heap.size, k, none⟩ = some (.int .i8 x) := by
              have h := HCX.out wr w.heap.size (hkqw.heap HE5.out id) k (by omega)
              rwa [show X.getD k 0 = x by simp [HXK.out]] at h
            have cXj : wr.cell? ⟨w.heap.size, j, none⟩ = some (.int .i8 y) := by
              have h := HCX.out wr w.heap.size (hkqw.heap HE5.out id) j (by omega)
              rwa [show X.getD j 0 = y by simp [hyj]] at h
            have d1 : wr.cell? ⟨w1.heap.size, 1, none⟩ = some (.slice (some ⟨gT, 0, none⟩) D cT) := hkqw.cell (cell_heap HB7.out 1) id
            have cTk : wr.cell? ⟨gT, k, none⟩ = some (.int .i64 t) := hkqw.cell (Go.Kq.own_cell HM2'.out (by rw [List.getElem?_map, HT.out]; rfl)) id
            have cTj : wr.cell? ⟨gT, j, none⟩ = some (.int .i64 t') := hkqw.cell (Go.Kq.own_cell HM2'.out (by rw [List.getElem?_map, htj]; rfl)) id
            have htt := (okS_iff R.to D).1 H3.out k hlt j hltj
            rw [show R.to.getD k 0 = t by simp [HT.out], show R.to.getD j 0 = t' by simp [htj]] at htt
            have HOR := Lib.hid (show (okS X k && okR X k (j + 1)) = ((okS X k && okR X k j) && (decide (x < 0) || decide (x ≠ y))) by
              rw [okR, show X.getD k 0 = x by simp [HXK.out], show X.getD j 0 = y by simp [hyj], Bool.and_assoc])
            have hjD : (j : Int) < (D : Int) := by omega
            have hkD' : (k : Int) < (D : Int) := by omega
            clear hyj htj hkqw
            cases hbb : okS X k && okR X k j
            · have HBB := Lib.hid hbb
              clear hbb
              rcases htt with htt | htt
              · have ht0 : decide (0 ≤ t) = false := decide_eq_false (by omega)
                have HL := Lib.hid (show (okS X k && okR X k (j + 1)) = false by rw [HOR.out, HBB.out]; first | (simp [*]; done) | (simp; omega))
                go_wp2_with fail
                go_quiet (fail)
                go_wp2_with fail
                go_quiet (fail)
                go_wp2
                go_roundw
                case rel => exact ⟨j + 1, by omega, by go_num, by first | (rw [HL.out]; done) | (rw [HL.out, show (x != y) = true by rw [bne, hxe]; rfl]), by first | exact hkq.tr (Kp.drewN _ _ _) | exact hkq.tr ((Kp.drewN _ _ _).tr (Kp.drewN _ _ _))⟩
                case measure => simp [intOf]; omega
              · by_cases ht0' : 0 ≤ t
                · have htn : (t == t') = false := by rw [beq_eq_false_iff_ne]; exact htt
                  have HL := Lib.hid (show (okS X k && okR X k (j + 1)) = false by rw [HOR.out, HBB.out]; first | (simp [*]; done) | (simp; omega))
                  go_wp2_with fail
                  go_quiet (fail)
                  go_wp2_with fail
                  go_quiet (fail)
                  go_wp2
                  go_roundw
                  case rel => exact ⟨j + 1, by omega, by go_num, by first | (rw [HL.out]; done) | (rw [HL.out, show (x != y) = true by rw [bne, hxe]; rfl]), by first | exact hkq.tr (Kp.drewN _ _ _) | exact hkq.tr ((Kp.drewN _ _ _).tr (Kp.drewN _ _ _))⟩
                  case measure => simp [intOf]; omega
                · have ht0 : decide (0 ≤ t) = false := decide_eq_false ht0'
                  have HL := Lib.hid (show (okS X k && okR X k (j + 1)) = false by rw [HOR.out, HBB.out]; first | (simp [*]; done) | (simp; omega))
                  go_wp2_with fail
                  go_quiet (fail)
                  go_wp2_with fail
                  go_quiet (fail)
                  go_wp2
                  go_roundw
                  case rel => exact ⟨j + 1, by omega, by go_num, by first | (rw [HL.out]; done) | (rw [HL.out, show (x != y) = true by rw [bne, hxe]; rfl]), by first | exact hkq.tr (Kp.drewN _ _ _) | exact hkq.tr ((Kp.drewN _ _ _).tr (Kp.drewN _ _ _))⟩
                  case measure => simp [intOf]; omega
            · have HBB := Lib.hid hbb
              clear hbb
              by_cases hx0 : x < 0
              · have hx1 : decide (x < 0) = true := decide_eq_true hx0
                rcases htt with htt | htt
                · have ht0 : decide (0 ≤ t) = false := decide_eq_false (by omega)
                  have HL := Lib.hid (show (okS X k && okR X k (j + 1)) = true by rw [HOR.out, HBB.out]; first | (simp [*]; done) | (simp; omega))
                  go_wp2_with fail
                  go_quiet (fail)
                  go_wp2_with fail
                  go_quiet (fail)
                  go_wp2
                  go_roundw
                  case rel => exact ⟨j + 1, by omega, by go_num, by first | (rw [HL.out]; done) | (rw [HL.out, show (x != y) = true by rw [bne, hxe]; rfl]), by first | exact hkq.tr (Kp.drewN _ _ _) | exact hkq.tr ((Kp.drewN _ _ _).tr (Kp.drewN _ _ _))⟩
                  case measure => simp [intOf]; omega
                · by_cases ht0' : 0 ≤ t
                  · have htn : (t == t') = false := by rw [beq_eq_false_iff_ne]; exact htt
                    have HL := Lib.hid (show (okS X k && okR X k (j + 1)) = true by rw [HOR.out, HBB.out]; first | (simp [*]; done) | (simp; omega))
                    go_wp2_with fail
                    go_quiet (fail)
                    go_wp2_with fail
                    go_quiet (fail)
                    go_wp2
                    go_roundw
                    case rel => exact ⟨j + 1, by omega, by go_num, by first | (rw [HL.out]; done) | (rw [HL.out, show (x != y) = true by rw [bne, hxe]; rfl]), by first | exact hkq.tr (Kp.drewN _ _ _) | exact hkq.tr ((Kp.drewN _ _ _).tr (Kp.drewN _ _ _))⟩
                    case measure => simp [intOf]; omega
                  · have ht0 : decide (0 ≤ t) = false := decide_eq_false ht0'
                    have HL := Lib.hid (show (okS X k && okR X k (j + 1)) = true by rw [HOR.out, HBB.out]; first | (simp [*]; done) | (simp; omega))
                    go_wp2_with fail
                    go_quiet (fail)
                    go_wp2_with fail
                    go_quiet (fail)
                    go_wp2
                    go_roundw
                    case rel => exact ⟨j + 1, by omega, by go_num, by first | (rw [HL.out]; done) | (rw [HL.out, show (x != y) = true by rw [bne, hxe]; rfl]), by first | exact hkq.tr (Kp.drewN _ _ _) | exact hkq.tr ((Kp.drewN _ _ _).tr (Kp.drewN _ _ _))⟩
                    case measure => simp [intOf]; omega
              · have hx1 : decide (x < 0) = false := decide_eq_false hx0
                by_cases hxy : x = y
                · subst hxy
                  have hxe : (x == x) = true := beq_self_eq_true _
                  rcases htt with htt | htt
                  · have ht0 : decide (0 ≤ t) = false := decide_eq_false (by omega)
                    have HL := Lib.hid (show (okS X k && okR X k (j + 1)) = false by rw [HOR.out, HBB.out]; first | (simp [*]; done) | (simp; omega))
                    go_wp2_with fail
                    go_quiet (fail)
                    go_wp2_with fail
                    go_quiet (fail)
                    go_wp2
                    go_roundw
                    case rel => exact ⟨j + 1, by omega, by go_num, by first | (rw [HL.out]; done) | (rw [HL.out, show (x != y) = true by rw [bne, hxe]; rfl]), by first | exact hkq.tr (Kp.drewN _ _ _) | exact hkq.tr ((Kp.drewN _ _ _).tr (Kp.drewN _ _ _))⟩
                    case measure => simp [intOf]; omega
                  · by_cases ht0' : 0 ≤ t
                    · have htn : (t == t') = false := by rw [beq_eq_false_iff_ne]; exact htt
                      have HL := Lib.hid (show (okS X k && okR X k (j + 1)) = false by rw [HOR.out, HBB.out]; first | (simp [*]; done) | (simp; omega))
                      go_wp2_with fail
                      go_quiet (fail)
                      go_wp2_with fail
                      go_quiet (fail)
                      go_wp2
                      go_roundw
                      case rel => exact ⟨j + 1, by omega, by go_num, by first | (rw [HL.out]; done) | (rw [HL.out, show (x != y) = true by rw [bne, hxe]; rfl]), by first | exact hkq.tr (Kp.drewN _ _ _) | exact hkq.tr ((Kp.drewN _ _ _).tr (Kp.drewN _ _ _))⟩
                      case measure => simp [intOf]; omega
                    · have ht0 : decide (0 ≤ t) = false := decide_eq_false ht0'
                      have HL := Lib.hid (show (okS X k && okR X k (j + 1)) = false by rw [HOR.out, HBB.out]; first | (simp [*]; done) | (simp; omega))
                      go_wp2_with fail
                      go_quiet (fail)
                      go_wp2_with fail
                      go_quiet (fail)
                      go_wp2
                      go_roundw
                      case rel => exact ⟨j + 1, by omega, by go_num, by first | (rw [HL.out]; done) | (rw [HL.out, show (x != y) = true by rw [bne, hxe]; rfl]), by first | exact hkq.tr (Kp.drewN _ _ _) | exact hkq.tr ((Kp.drewN _ _ _).tr (Kp.drewN _ _ _))⟩
                      case measure => simp [intOf]; omega
                · have hxe : (x == y) = false := by rw [beq_eq_false_iff_ne]; exact hxy
                  rcases htt with htt | htt
                  · have ht0 : decide (0 ≤ t) = false := decide_eq_false (by omega)
                    have HL := Lib.hid (show (okS X k && okR X k (j + 1)) = true by rw [HOR.out, HBB.out]; first | (simp [*]; done) | (simp; omega))
                    go_wp2_with fail
                    go_quiet (fail)
                    go_wp2_with fail
                    go_quiet (fail)
                    go_wp2
                    go_roundw
                    case rel => exact ⟨j + 1, by omega, by go_num, by first | (rw [HL.out]; done) | (rw [HL.out, show (x != y) = true by rw [bne, hxe]; rfl]), by first | exact hkq.tr (Kp.drewN _ _ _) | exact hkq.tr ((Kp.drewN _ _ _).tr (Kp.drewN _ _ _))⟩
                    case measure => simp [intOf]; omega
                  · by_cases ht0' : 0 ≤ t
                    · have htn : (t == t') = false := by rw [beq_eq_false_iff_ne]; exact htt
                      have HL := Lib.hid (show (okS X k && okR X k (j + 1)) = true by rw [HOR.out, HBB.out]; first | (simp [*]; done) | (simp; omega))
                      go_wp2_with fail
                      go_quiet (fail)
                      go_wp2_with fail
                      go_quiet (fail)
                      go_wp2
                      go_roundw
                      case rel => exact ⟨j + 1, by omega, by go_num, by first | (rw [HL.out]; done) | (rw [HL.out, show (x != y) = true by rw [bne, hxe]; rfl]), by first | exact hkq.tr (Kp.drewN _ _ _) | exact hkq.tr ((Kp.drewN _ _ _).tr (Kp.drewN _ _ _))⟩
                      case measure => simp [intOf]; omega
                    · have ht0 : decide (0 ≤ t) = false := decide_eq_false ht0'
                      have HL := Lib.hid (show (okS X k && okR X k (j + 1)) = true by rw [HOR.out, HBB.out]; first | (simp [*]; done) | (simp; omega))
                      go_wp2_with fail
                      go_quiet (fail)
                      go_wp2_with fail
                      go_quiet (fail)
                      go_wp2
                      go_roundw
                      case rel => exact ⟨j + 1, by omega, by go_num, by first | (rw [HL.out]; done) | (rw [HL.out, show (x != y) = true by rw [bne, hxe]; rfl]), by first | exact hkq.tr (Kp.drewN _ _ _) | exact hkq.tr ((Kp.drewN _ _ _).tr (Kp.drewN _ _ _))⟩
                      case measure => simp [intOf]; omega
          · obtain rfl : j = k := by omega
            have HK1 := Lib.hid (show (okS X j && okR X j j) = okS X (j + 1) from rfl)
            have hkq' := hkw4.tr hkq
            clear hkw4 hkM hkN HPA
            go_wp2_with fail
            go_roundw
            case rel => exact ⟨j + 1, by omega, by go_num, by rw [HS1.out], by rw [HS2.out], by rw [HK1.out], hkq'⟩
            case measure => simp [intOf]; omega
      · obtain rfl : k = D := by omega
        have hkwr := hkw2.tr hkp
        have hXk : X.length = 5 := HXL.out
        have hfin : okS X k = true → R.cost ≤ csum xs ys F (X.take k) := fun hok => H4.out (X.take k) (by rw [List.length_take]; omega) (by
          rw [okS_congr (Y := X) fun i hi => by simp [hi]]
          exact hok)
        have hcs : csum xs ys (F.take k) (R.to.take k) = R.cost := by
          have h1 := HD.out
          have h2 := H1.out
          rw [List.take_of_length_le (by omega), List.take_of_length_le (by omega)]
          exact H2.out.symm
        have hct : csum xs ys (F.take k) (X.take k) = csum xs ys F (X.take k) := by
          have h1 := HD.out
          rw [List.take_of_length_le (l := F) (by omega)]
        rw [hcs, hct]
        generalize csum xs ys F (X.take k) = oth at hfin ⊢
        have d3 : wr.cell? ⟨w1.heap.size, 3, none⟩ = some (.int .i64 R.cost) := hkp.cell (cell_heap HB7.out 3) id
        have cX4 : wr.cell? ⟨w.heap.size, 4, none⟩ = some (.int .i8 x4) := by
          have h := HCX.out wr w.heap.size (hkp.heap HE5.out id) 4 (by omega)
          rwa [HX4.out] at h
        have hwx : IntKind.i64.wrap x4 = x4 := IntWalk.i64_in _ (by omega)
        have HFI := Lib.hid hfin
        clear hfin hcs hct hXk
        go_wp2_with fail
        have h7 := and7 x4 b4
        generalize bits .and .i64 x4 7 = most at h7 ⊢
        obtain ⟨e1, e2, e3⟩ := best_mono (m := most) HK.out (by omega)
        rcases hv1 : bestV xs ys most with ⟨o1, c1, er1⟩
        rcases hv2 : bestV xs ys (most + 1) with ⟨o2, c2, er2⟩
        rw [hv1] at e1 e3
        rw [hv2] at e2 e3
        replace e1 : er1 = 0 := e1
        replace e2 : er2 = 0 := e2
        replace e3 : c2 ≤ c1 := e3
        subst e1 e2
        have HV1 := Lib.hid hv1
        have HV2 := Lib.hid hv2
        clear hv1 hv2
        refine (Best_any A Y n m ca cb xs ys most wr (hx.no hkwr) (hy.no hkwr)).mono ?_
        rw [HV1.out]
        rintro e w5 ⟨v5, rfl, _, hk5⟩
        have hkw5 := hkwr.tr hk5
        go_wp2_with fail
        refine (Best_any A Y n m ca cb xs ys (most + 1) w5 (hx.no hkw5) (hy.no hkw5)).mono ?_
        rw [HV2.out]
        rintro e w6 ⟨v6, rfl, _, hk6⟩
        have d36 := (hk5.tr hk6).cell d3 id
        have hRR : (R.cost == R.cost) = true := beq_self_eq_true _
        have hkw6 := hkw5.tr hk6
        cases hok : okS X k
        · go_wp2_with fail
          refine (awake_any _).mono ?_
          rintro e w7 ⟨rfl, hk7⟩
          go_wp2_with fail
          go_ret
          exact ⟨rfl, hkw6.tr hk7⟩
        · have hle := HFI.out hok
          have HOK := Lib.hid hok
          clear hok
          go_wp2_with fail
          refine (awake_any _).mono ?_
          rintro e w7 ⟨rfl, hk7⟩
          go_wp2_with fail
          go_ret
          exact ⟨rfl, hkw6.tr hk7⟩
  · have heb : ((routeV xs ys).err == 0) = false := by rw [beq_eq_false_iff_ne]; exact he
    go_enter Try.func8, Try.ntmps8
    go_wp2_with fail
    refine (Route_any A Y n m ca cb xs ys _ (hx.no (Kp.alloc _ _ _)) (hy.no (Kp.alloc _ _ _))).mono ?_
    generalize routeV xs ys = r at heb ⊢
    rintro e w1 ⟨vF, vT, vS, rfl, ⟨m1, m2, m3⟩, hk1⟩
    obtain ⟨aF, cF, rfl, _, _, haF⟩ := Go.Kq.own_form m1
    obtain ⟨aT, cT, rfl, _, _, haT⟩ := Go.Kq.own_form m2
    obtain ⟨aS, cS, rfl, _, _, _⟩ := Go.Kq.own_form m3
    clear m1 m2 m3
    go_wp2_with fail
    refine (awake_any _).mono ?_
    rintro e w7 ⟨rfl, hk7⟩
    go_wp2_with fail
    go_ret
    exact ⟨rfl, ((Kp.alloc _ _ _).tr hk1).tr ((Kp.alloc _ _ _).tr hk7)⟩
end Go.Proofs.Ytfflhlmnfhfcgaa
