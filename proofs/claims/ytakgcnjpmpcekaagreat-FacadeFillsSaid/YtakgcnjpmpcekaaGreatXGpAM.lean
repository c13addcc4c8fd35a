/- Chapter 24: the law's comparisons of lists. Printed by gen_lwa.py. · Chapter 24: slices.Grow of nil, slices.Concat; what is wrong with a plan. -/
import Derived.Lib.AppendZerosOnto
import Derived.Lib.SliceRun
import Derived.Lib.Walk
import Derived.Test.YtakgcnjpmpcekaaGreatXRwMM
import Derived.Test.YtakgcnjpmpcekaaGreatXRwLM
import Derived.Test.YtakgcnjpmpcekaaGreatXFlBM
namespace Go.Proofs.YtakgcnjpmpcekaaGreat
open Go.RowKit Go.Kq

set_option maxHeartbeats 4000000 in
theorem sameI_any (A B : Option Addr) (n m c d : Nat) (xs ys : List Int) (w : World) (hn : n ≤ 100000) (hm : m ≤ 100000) (hx : RdI .i64 w A n xs) (hy : RdI .i64 w B m ys) :
    Calls Tryz.prog 15 #[.slice A n c, .slice B m d] w fun e w' => e = .returned (.bool (decide (xs = ys))) ∧ ∃ q, w' = w.drewN q := by
  have hxl := hx.1
  have hyl := hy.1
  have HX := Lib.hid hx
  have HY := Lib.hid hy
  by_cases hnm : n = m
  · subst hnm
    have HXL := Lib.hid hxl
    have HYL := Lib.hid hyl
    clear hxl hyl hx hy
    go_enter Tryz.func15, Tryz.ntmps15
    go_wp2_with fail
    go_loopw [5] (fun i wr => ∃ k : Nat, k ≤ n ∧ i = .int .i64 k ∧ xs.take k = ys.take k ∧ ∃ q, wr = w.drewN q) (fun i _ => n - (intOf i).toNat)
    case atStart => exact ⟨0, by omega, rfl, rfl, 0, rfl⟩
    case round =>
      obtain ⟨k, hk, rfl, hno, q, hq⟩ := hrel
      have HN := Lib.hid hno
      have HQ := Lib.hid hq
      have hkp : Kp No w wr := by rw [hq]; exact Kp.drewN _ _ _
      clear hno hq
      by_cases hlt : k < n
      · obtain ⟨x, hx⟩ : ∃ x, xs[k]? = some x := ⟨_, List.getElem?_eq_getElem (by rw [HXL.out]; exact hlt)⟩
        obtain ⟨y, hy⟩ : ∃ y, ys[k]? = some y := ⟨_, List.getElem?_eq_getElem (by rw [HYL.out]; exact hlt)⟩
        obtain ⟨b, o, rfl, hb, hc⟩ := (HX.out.no hkp).2 k x hx
        obtain ⟨b', o', rfl, hb', hc'⟩ := (HY.out.no hkp).2 k y hy
        have GX := Lib.hid hx
        have GY := Lib.hid hy
        clear hx hy hkp
        by_cases he : x = y
        · have d1 : (x != y) = false := by simp [he]
          have HE := Lib.hid he
          clear he
          go_wp2_with fail
          go_quiet (fail)
          go_wp2_with fail
          go_roundw
          case rel => exact ⟨k + 1, by omega, by go_num, by rw [List.take_add_one, List.take_add_one, GX.out, GY.out, HN.out, HE.out], q + nq, by rw [HQ.out, World.drewN_drewN]⟩
          case measure => simp [intOf]; omega
        · have d1 : (x != y) = true := by simp [he]
          have HE := Lib.hid he
          clear he
          go_wp2_with fail
          go_quiet (fail)
          go_wp2_with fail
          go_ret
          refine ⟨ret_bool ?_, q + nq, by rw [HQ.out, World.drewN_drewN]⟩
          symm
          rw [decide_eq_false_iff_not]
          intro e
          subst e
          exact HE.out (Option.some.inj (GX.out.symm.trans GY.out))
      · obtain rfl : k = n := by omega
        clear hkp
        go_wp2_with fail
        go_ret
        refine ⟨ret_bool ?_, q, HQ.out⟩
        have h := HN.out
        rw [List.take_of_length_le (by rw [HXL.out]; exact Nat.le_refl _), List.take_of_length_le (by rw [HYL.out]; exact Nat.le_refl _)] at h
        rw [h]
        simp
  · have HE := Lib.hid (show decide (xs = ys) = false by rw [decide_eq_false_iff_not]; intro e; subst e; exact hnm (hxl.symm.trans hyl))
    have d1 : ((n : Int) != (m : Int)) = true := by simp; omega
    rw [HE.out]
    clear hxl hyl hx hy
    go_enter Tryz.func15, Tryz.ntmps15
    go_wp2_with fail
    go_ret
    exact ⟨rfl, 0, rfl⟩
set_option maxHeartbeats 4000000 in
theorem sameL_any (A B : Option Addr) (n m c d : Nat) (xs ys : List Int) (w : World) (hn : n ≤ 100000) (hm : m ≤ 100000) (hx : RdI .i64 w A n xs) (hy : RdI .i64 w B m ys) :
    Calls Tryz.prog 9 #[.slice A n c, .slice B m d] w fun e w' => e = .returned (.bool (decide (xs = ys))) ∧ ∃ q, w' = w.drewN q := by
  have hxl := hx.1
  have hyl := hy.1
  have HX := Lib.hid hx
  have HY := Lib.hid hy
  by_cases hnm : n = m
  · subst hnm
    have HXL := Lib.hid hxl
    have HYL := Lib.hid hyl
    clear hxl hyl hx hy
    go_enter Tryz.func9, Tryz.ntmps9
    go_wp2_with fail
    go_loopw [5] (fun i wr => ∃ k : Nat, k ≤ n ∧ i = .int .i64 k ∧ xs.take k = ys.take k ∧ ∃ q, wr = w.drewN q) (fun i _ => n - (intOf i).toNat)
    case atStart => exact ⟨0, by omega, rfl, rfl, 0, rfl⟩
    case round =>
      obtain ⟨k, hk, rfl, hno, q, hq⟩ := hrel
      have HN := Lib.hid hno
      have HQ := Lib.hid hq
      have hkp : Kp No w wr := by rw [hq]; exact Kp.drewN _ _ _
      clear hno hq
      by_cases hlt : k < n
      · obtain ⟨x, hx⟩ : ∃ x, xs[k]? = some x := ⟨_, List.getElem?_eq_getElem (by rw [HXL.out]; exact hlt)⟩
        obtain ⟨y, hy⟩ : ∃ y, ys[k]? = some y := ⟨_, List.getElem?_eq_getElem (by rw [HYL.out]; exact hlt)⟩
        obtain ⟨b, o, rfl, hb, hc⟩ := (HX.out.no hkp).2 k x hx
        obtain ⟨b', o', rfl, hb', hc'⟩ := (HY.out.no hkp).2 k y hy
        have GX := Lib.hid hx
        have GY := Lib.hid hy
        clear hx hy hkp
        by_cases he : x = y
        · have d1 : (x != y) = false := by simp [he]
          have HE := Lib.hid he
          clear he
          go_wp2_with fail
          go_quiet (fail)
          go_wp2_with fail
          go_roundw
          case rel => exact ⟨k + 1, by omega, by go_num, by rw [List.take_add_one, List.take_add_one, GX.out, GY.out, HN.out, HE.out], q + nq, by rw [HQ.out, World.drewN_drewN]⟩
          case measure => simp [intOf]; omega
        · have d1 : (x != y) = true := by simp [he]
          have HE := Lib.hid he
          clear he
          go_wp2_with fail
          go_quiet (fail)
          go_wp2_with fail
          go_ret
          refine ⟨ret_bool ?_, q + nq, by rw [HQ.out, World.drewN_drewN]⟩
          symm
          rw [decide_eq_false_iff_not]
          intro e
          subst e
          exact HE.out (Option.some.inj (GX.out.symm.trans GY.out))
      · obtain rfl : k = n := by omega
        clear hkp
        go_wp2_with fail
        go_ret
        refine ⟨ret_bool ?_, q, HQ.out⟩
        have h := HN.out
        rw [List.take_of_length_le (by rw [HXL.out]; exact Nat.le_refl _), List.take_of_length_le (by rw [HYL.out]; exact Nat.le_refl _)] at h
        rw [h]
        simp
  · have HE := Lib.hid (show decide (xs = ys) = false by rw [decide_eq_false_iff_not]; intro e; subst e; exact hnm (hxl.symm.trans hyl))
    have d1 : ((n : Int) != (m : Int)) = true := by simp; omega
    rw [HE.out]
    clear hxl hyl hx hy
    go_enter Tryz.func9, Tryz.ntmps9
    go_wp2_with fail
    go_ret
    exact ⟨rfl, 0, rfl⟩
set_option maxHeartbeats 4000000 in
theorem samePlan_any (A B : Option Addr) (n m c d g g' : Nat) (xs ys : List (List Int)) (w : World) (hn : n ≤ 100000) (hm : m ≤ 100000) (hxb : ∀ x ∈ xs, x.length ≤ 100000) (hyb : ∀ x ∈ ys, x.length ≤ 100000) (hx : RdL g w A n xs) (hy : RdL g' w B m ys) :
    Calls Tryz.prog 16 #[.slice A n c, .slice B m d] w fun e w' => e = .returned (.bool (decide (xs = ys))) ∧ ∃ q, w' = w.drewN q := by
  have hxl := hx.1
  have hyl := hy.1
  have HX := Lib.hid hx
  have HY := Lib.hid hy
  have HBX := Lib.hid hxb
  have HBY := Lib.hid hyb
  clear hxb hyb
  by_cases hnm : n = m
  · subst hnm
    have HXL := Lib.hid hxl
    have HYL := Lib.hid hyl
    clear hxl hyl hx hy
    go_enter Tryz.func16, Tryz.ntmps16
    go_wp2_with fail
    go_loopw [5] (fun i wr => ∃ k : Nat, k ≤ n ∧ i = .int .i64 k ∧ xs.take k = ys.take k ∧ ∃ q, wr = w.drewN q) (fun i _ => n - (intOf i).toNat)
    case atStart => exact ⟨0, by omega, rfl, rfl, 0, rfl⟩
    case round =>
      obtain ⟨k, hk, rfl, hno, q, hq⟩ := hrel
      have HN := Lib.hid hno
      have HQ := Lib.hid hq
      have hkp : Kp No w wr := by rw [hq]; exact Kp.drewN _ _ _
      clear hno hq
      by_cases hlt : k < n
      · obtain ⟨x, hx⟩ : ∃ x, xs[k]? = some x := ⟨_, List.getElem?_eq_getElem (by rw [HXL.out]; exact hlt)⟩
        obtain ⟨y, hy⟩ : ∃ y, ys[k]? = some y := ⟨_, List.getElem?_eq_getElem (by rw [HYL.out]; exact hlt)⟩
        obtain ⟨b, o, A1, n1, c1, rfl, _, hc, _, r1, _⟩ := (HX.out.no hkp).2 k x hx
        obtain ⟨b', o', A2, n2, c2, rfl, _, hc', _, r2, _⟩ := (HY.out.no hkp).2 k y hy
        have h1 := HBX.out x (List.mem_of_getElem? hx)
        have h2 := HBY.out y (List.mem_of_getElem? hy)
        have SI := Lib.hid (fun (w0 : World) (k0 : Kp No wr w0) => sameI_any A1 A2 n1 n2 c1 c2 x y w0 (by rw [← r1.1]; exact h1) (by rw [← r2.1]; exact h2) (r1.no k0) (r2.no k0))
        have KD := Lib.hid (fun z => Kp.drewN No wr z)
        have GX := Lib.hid hx
        have GY := Lib.hid hy
        have hb := (World.block_lt_of_cell? _ _ hc)
        have hb' := (World.block_lt_of_cell? _ _ hc')
        clear hx hy hkp r1 r2 h1 h2
        by_cases he : x = y
        · have HE := Lib.hid he
          rw [decide_eq_true he] at SI
          clear he
          go_wp2_with fail
          go_quiet ((go_at_call 15; exact Calls.quiet_of (SI.out _ (KD.out _))))
          go_wp2_with fail
          go_roundw
          case rel => exact ⟨k + 1, by omega, by go_num, by rw [List.take_add_one, List.take_add_one, GX.out, GY.out, HN.out, HE.out], q + nq, by rw [HQ.out, World.drewN_drewN]⟩
          case measure => simp [intOf]; omega
        · have HE := Lib.hid he
          rw [decide_eq_false he] at SI
          clear he
          go_wp2_with fail
          go_quiet ((go_at_call 15; exact Calls.quiet_of (SI.out _ (KD.out _))))
          go_wp2_with fail
          go_ret
          refine ⟨ret_bool ?_, q + nq, by rw [HQ.out, World.drewN_drewN]⟩
          symm
          rw [decide_eq_false_iff_not]
          intro e
          subst e
          exact HE.out (Option.some.inj (GX.out.symm.trans GY.out))
      · obtain rfl : k = n := by omega
        clear hkp
        go_wp2_with fail
        go_ret
        refine ⟨ret_bool ?_, q, HQ.out⟩
        have h := HN.out
        rw [List.take_of_length_le (by rw [HXL.out]; exact Nat.le_refl _), List.take_of_length_le (by rw [HYL.out]; exact Nat.le_refl _)] at h
        rw [h]
        simp
  · have HE := Lib.hid (show decide (xs = ys) = false by rw [decide_eq_false_iff_not]; intro e; subst e; exact hnm (hxl.symm.trans hyl))
    have d1 : ((n : Int) != (m : Int)) = true := by simp; omega
    rw [HE.out]
    clear hxl hyl hx hy
    go_enter Tryz.func16, Tryz.ntmps16
    go_wp2_with fail
    go_ret
    exact ⟨rfl, 0, rfl⟩
end Go.Proofs.YtakgcnjpmpcekaaGreat

namespace Go.Proofs.YtakgcnjpmpcekaaGreat
open Go.RowKit Go.Kq Go.Lib

theorem take_flat {α : Type} (L : List (List α)) (k : Nat) (x : List α) (h : L[k]? = some x) : (L.take (k + 1)).flatten = (L.take k).flatten ++ x := by
  rw [List.take_add_one, h]
  simp
theorem flat_bound {α : Type} (M : Nat) : ∀ L : List (List α), (∀ x ∈ L, x.length ≤ M) → L.flatten.length ≤ M * L.length
  | [], _ => by simp
  | a :: L, h => by
    have h1 := h a (by simp)
    have h2 := flat_bound M L fun x hx => h x (by simp [hx])
    rw [List.flatten_cons, List.length_append, List.length_cons, Nat.mul_succ]
    omega
theorem take_flat_le {α : Type} (L : List (List α)) (k : Nat) : (L.take k).flatten.length ≤ L.flatten.length := by
  have h : L.flatten = (L.take k).flatten ++ (L.drop k).flatten := by rw [← List.flatten_append, List.take_append_drop]
  rw [h, List.length_append]
  omega
theorem zc_size (k : Nat) : (Builtin.zeroCells (Value.int .i64 0).cells k).size = k := by
  unfold Builtin.zeroCells
  rw [Array.size_map, Array.size_range]
  exact Nat.mul_one k
set_option maxHeartbeats 2000000 in
set_option maxRecDepth 100000 in
theorem grow_nil (n : Nat) (w : World) (hn : n ≤ 100000) : Calls Tryz.prog 72 #[.slice none 0 0, .int .i64 (n : Nat)] w fun e w' => ∃ A c, e = .returned (.slice A 0 c) ∧ OwI w' w.heap.size (.slice A 0 c) [] ∧ Kp No w w' := by
  by_cases h0 : n = 0
  · subst h0
    go_enter Tryz.func72, Tryz.ntmps72
    go_wp2
    go_ret
    exact ⟨none, 0, rfl, World.ownsRow_nil w _ _ _, Kp.refl _ _⟩
  · obtain ⟨i0, hi, hz0, hz1, hz2⟩ := info_parts infoI0
    have hold : (Builtin.firstCells i0.size 0 (.slice none 0 0)).run Tryz.prog w.drew = .ok ([] : List Value).toArray w.drew := run_firstCells_none w.drew i0.size 0 0 0
    have hrz : ∀ ty, (Builtin.append_ #[36, 3] ty #[.slice none 0 0, .int .i64 (n : Nat)]).run Tryz.prog w =
        .ok (.slice (some ⟨w.heap.size, 0, none⟩) n (grownCap w n 0 3)) (w.drew.alloc (.cells (([] : List Value).toArray ++ Builtin.zeroCells (Value.int .i64 0).cells n ++ Builtin.zeroCells (Value.int .i64 0).cells (grownCap w n 0 3 - n)) 3)) := fun ty => by
      have h := Lib.run_append_grow_zeros w 36 3 ty 3 i0 (.int .i64 0) .i64 .i64 Tryz.underlying36 Tryz.underlying3 hi hz0 none 0 0 [] hold n (by omega) (by omega) (by omega) (by omega) (by rw [hz2]; omega)
        (by rw [hz2, Nat.zero_add]; exact growslice_fits (by omega) (by omega))
      rw [Nat.zero_add] at h
      exact h
    have hGn : n ≤ grownCap w n 0 3 := grownCap_ge w _ _ _
    have hGm := grownCap_le_maxLen w n 0 3 (by unfold maxLen; omega)
    obtain ⟨G, hG⟩ : ∃ G, G = grownCap w n 0 3 := ⟨_, rfl⟩
    rw [← hG] at hrz hGn hGm
    have hGM := Lib.hid hGm
    have hG63 : G ≤ 9223372036854775807 := by unfold maxLen at hGm; omega
    have hn0 : 0 < n := by omega
    clear hold hG hGm h0
    go_enter Tryz.func72, Tryz.ntmps72
    go_wp2_with (at_builtin; refine Lib.wpList_append_run _ rfl _ _ _ _ rfl _ _ rfl rfl _ _ (hrz _) ?_)
    go_ret
    refine ⟨some ⟨w.heap.size, 0, none⟩, G, rfl, ?_, (Kp.drew No w).tr (Kp.alloc _ _ _)⟩
    refine ⟨by simp, .inr ⟨_, G, _, rfl, Nat.le_refl _, heap_alloc_new w.drew _, Nat.zero_le _, hGM.out, ?_, rfl⟩⟩
    have e1 := zc_size n
    have e2 := zc_size (G - n)
    simp only [Value.cells] at e1 e2
    simp only [Array.size_append, e1, e2]
    omega
set_option maxHeartbeats 4000000 in
theorem concat_any (g : Nat) (A : Option Addr) (n ca : Nat) (Ls : List (List Int)) (w : World) (hR : RdL g w A n Ls) (hn : n ≤ 20) (hb : ∀ S ∈ Ls, S.length ≤ 70) :
    Calls Tryz.prog 51 #[.slice A n ca] w fun e w' => ∃ B c, e = .returned (.slice B Ls.flatten.length c) ∧ OwI w' w.heap.size (.slice B Ls.flatten.length c) Ls.flatten ∧ Kp No w w' := by
  have hl := hR.1
  have HR := Lib.hid hR
  have HL := Lib.hid hl
  have HB := Lib.hid hb
  have htot : Ls.flatten.length ≤ 1400 := by
    have := flat_bound 70 Ls hb
    rw [hl] at this
    have : 70 * n ≤ 1400 := by omega
    omega
  have HTK := Lib.hid (fun k => Nat.le_trans (take_flat_le Ls k) htot)
  have HTT := Lib.hid htot
  obtain ⟨tot, ht⟩ : ∃ tot, tot = Ls.flatten.length := ⟨_, rfl⟩
  have HT := Lib.hid ht
  rw [← ht] at htot
  clear hl hR hb ht
  go_enter Tryz.func51, Tryz.ntmps51
  go_wp2_with fail
  go_loop [3, 11] (fun v i => ∃ k : Nat, k ≤ n ∧ i = .int .i64 (k : Nat) ∧ v = .int .i64 ((Ls.take k).flatten.length : Nat)) (fun _ i => n - (intOf i).toNat)
  case atStart => exact ⟨0, by omega, rfl, rfl⟩
  case round =>
    obtain ⟨k, hk, rfl, rfl⟩ := hrel
    have hq := HTK.out k
    by_cases hlt : k < n
    · obtain ⟨S, hS⟩ : ∃ S, Ls[k]? = some S := ⟨_, List.getElem?_eq_getElem (by rw [HL.out]; exact hlt)⟩
      obtain ⟨b, o, A', n', c', rfl, hb1, hc, hnil, hr, hbb⟩ := HR.out.2 k S hS
      have hSl := HB.out S (List.mem_of_getElem? hS)
      have hsn : S.length = n' := hr.1
      have HS := Lib.hid (show (Ls.take (k + 1)).flatten.length = (Ls.take k).flatten.length + n' by rw [take_flat Ls k S hS, List.length_append, hsn])
      have hq2 := HTK.out (k + 1)
      rw [HS.out] at hq2
      have hbl := hb1.2
      rw [hsn] at hSl
      clear hr hbb hnil hS hb1 hsn
      generalize (Ls.take k).flatten.length = q at *
      go_wp2_with fail
      go_round
      case rel => exact ⟨k + 1, by omega, by go_num, by rw [HS.out]; go_num⟩
      case measure => simp [intOf]; omega
    · obtain rfl : k = n := by omega
      have HE := Lib.hid (show (Ls.take k).flatten.length = tot by rw [List.take_of_length_le (by rw [HL.out]; exact Nat.le_refl _), HT.out])
      rw [HE.out]
      clear hq
      go_wp2_with fail
      with_reducible refine (grow_nil tot w (by omega)).mono ?_
      rintro e w1 ⟨B, c, rfl, ho, hk1⟩
      have HO := Lib.hid ho
      have HK := Lib.hid hk1
      clear ho hk1
      go_wp2_with fail
      go_loopw [6, 27] (fun v i wr => ∃ (j : Nat) (B : Option Addr) (c m : Nat), j ≤ k ∧ i = .int .i64 (j : Nat) ∧ v = .slice B m c ∧ m = (Ls.take j).flatten.length ∧ OwI wr w.heap.size (.slice B m c) (Ls.take j).flatten ∧ Kp No w wr) (fun _ i _ => k - (intOf i).toNat)
      case atStart => exact ⟨0, B, c, 0, by omega, rfl, rfl, rfl, HO.out, HK.out⟩
      case round =>
        obtain ⟨j, B, c, m, hj, rfl, rfl, hmm, ho, hkp⟩ := hrel
        have HM := Lib.hid hmm
        have hm14 : m ≤ 1400 := by rw [hmm]; exact HTK.out j
        clear HO HK
        have HO := Lib.hid ho
        have HK := Lib.hid hkp
        clear ho hkp hmm
        by_cases hltj : j < k
        · obtain ⟨S, hS⟩ : ∃ S, Ls[j]? = some S := ⟨_, List.getElem?_eq_getElem (by rw [HL.out]; exact hltj)⟩
          obtain ⟨b, o, A', n', c', rfl, hb1, hc, hnil, hr, hbb⟩ := (HR.out.no HK.out).2 j S hS
          have hSl := HB.out S (List.mem_of_getElem? hS)
          have hsn : S.length = n' := hr.1
          have HS := Lib.hid (take_flat Ls j S hS)
          rw [hsn] at hSl
          have HRR := Lib.hid hr
          have HNN := Lib.hid hnil
          have HSN := Lib.hid hsn
          clear hr hbb hnil hS hb1 hsn
          go_wp2_with (at_builtin; refine stop_in ?_)
          refine stop_out ?_
          refine push_all rfl _ _ rfl w.heap.size B A' m c n' c' (Ls.take j).flatten S rfl rfl HM.out.symm HSN.out HO.out HNN.out HRR.out (by omega) (by omega) HK.out (Nat.le_refl _) HK.out.size ?_
          intro B2 c2 w2 ho2 hk2
          rw [← HS.out] at ho2
          have HO2 := Lib.hid ho2
          have HK2 := Lib.hid hk2
          have HM2 := Lib.hid (show m + n' = (Ls.take (j + 1)).flatten.length by rw [HS.out, List.length_append, HM.out, HSN.out])
          clear ho2 hk2
          go_wp2_with fail
          go_roundw
          case rel => exact ⟨j + 1, B2, c2, m + n', by omega, by go_num, rfl, HM2.out, HO2.out, HK2.out⟩
          case measure => simp [intOf]; omega
        · obtain rfl : j = k := by omega
          have HE1 := Lib.hid (show (Ls.take j).flatten = Ls.flatten by rw [List.take_of_length_le (by rw [HL.out]; exact Nat.le_refl _)])
          have HE2 := Lib.hid (show m = Ls.flatten.length by rw [HM.out, HE1.out])
          go_wp2_with fail
          go_ret
          refine ⟨B, c, by rw [← HE2.out]; rfl, ?_, HK.out⟩
          have h := HO.out
          rw [HE1.out, HE2.out] at h
          exact h
def plaE (L : Nat) (Ls : List (List Int)) (m : Int) : Int := if Ls.length ≠ L ∨ 60 < Ls.flatten.length then 2 else if Ls.flatten.any (plaB m) then 2 else 0
set_option maxHeartbeats 4000000 in
theorem planned_any (g : Nat) (A B : Option Addr) (n ca L cl : Nat) (m : Int) (Ls : List (List Int)) (w : World) (hR : RdL g w A n Ls) (hn : n ≤ 20) (hb : ∀ S ∈ Ls, S.length ≤ 70) :
    Calls Tryz.prog 34 #[.slice B L cl, .slice A n ca, .int .i64 m] w fun e w' => e = .returned (.int .i64 (plaE L Ls m)) ∧ Kp No w w' := by
  have hl := hR.1
  have CC := Lib.hid (fun w0 (k : Kp No w w0) => concat_any g A n ca Ls w0 (hR.no k) hn hb)
  have HPE := Lib.hid (show plaE L Ls m = if n ≠ L ∨ 60 < Ls.flatten.length then 2 else if Ls.flatten.any (plaB m) then 2 else 0 by rw [← hl]; rfl)
  have htot : Ls.flatten.length ≤ 1400 := by
    have := flat_bound 70 Ls hb
    rw [hl] at this
    have : 70 * n ≤ 1400 := by omega
    omega
  have hk0 : Kp No w (w.alloc (.cells #[.int .i64 m] 3)) := Kp.alloc _ _ _
  have hbx : (w.alloc (.cells #[.int .i64 m] 3)).heap[w.heap.size]? = some (.cells #[.int .i64 m] 3 (0, 0)) := heap_alloc_new _ _
  obtain ⟨g0, hg0⟩ : ∃ g0, g0 = w.heap.size := ⟨_, rfl⟩
  rw [← hg0] at hbx
  clear hl hR hb
  by_cases hnL : n = L
  rotate_left
  · have d1 : ((n : Int) != (L : Int)) = true := by simp; omega
    have HE := Lib.hid (show plaE L Ls m = 2 by rw [HPE.out, if_pos (.inl hnL)])
    rw [HE.out]
    clear hnL hg0 hbx
    go_enter Tryz.func34, Tryz.ntmps34
    go_wp2_with fail
    go_ret
    exact ⟨rfl, hk0⟩
  subst hnL
  obtain ⟨fl, hfl⟩ : ∃ fl, fl = Ls.flatten := ⟨_, rfl⟩
  rw [← hfl] at CC HPE htot
  obtain ⟨q, hq⟩ : ∃ q, q = fl.length := ⟨_, rfl⟩
  rw [← hq] at CC HPE htot
  have HQ := Lib.hid hq
  clear hfl hq
  by_cases h60 : 60 < q
  · have HE := Lib.hid (show plaE n Ls m = 2 by rw [HPE.out, if_pos (.inr h60)])
    rw [HE.out]
    clear hg0 hbx
    go_enter Tryz.func34, Tryz.ntmps34
    go_wp2_with fail
    with_reducible refine (CC.out _ hk0).mono ?_
    rintro e w1 ⟨B1, c1, rfl, ho, k1⟩
    clear ho
    go_wp2_with fail
    go_ret
    exact ⟨rfl, hk0.tr k1⟩
  · have HE := Lib.hid (show plaE n Ls m = if fl.any (plaB m) then 2 else 0 by rw [HPE.out, if_neg (by omega)])
    rw [HE.out]
    clear HPE HE
    have CT := Lib.hid (fun (B1 : Option Addr) (c1 : Nat) (w0 : World) (hr : RdI .i64 w0 B1 q fl) (hc : w0.cell? ⟨g0, 0, none⟩ = some (.int .i64 m)) => contains_plan (cv := .pointer (some ⟨g0, 0, none⟩)) B1 q c1 fl (plaB m) w0 hr (by omega) (fun v w' k => plaB_any v m g0 w' (k.cell hc id)))
    generalize fl.any (plaB m) = bad at *
    go_enter Tryz.func34, Tryz.ntmps34
    go_wp2_with fail
    rw [← hg0]
    clear hg0
    with_reducible refine (CC.out _ hk0).mono ?_
    rintro e w1 ⟨B1, c1, rfl, ho, k1⟩
    clear ho
    go_wp2_with fail
    with_reducible refine (CC.out _ (hk0.tr k1)).mono ?_
    rintro e w2 ⟨B2, c2, rfl, ho2, k2⟩
    have hr2 := Lib.hid (own_rdi (show OwI w2 w1.heap.size (.slice B2 q c2) fl by rw [HQ.out] at ho2 ⊢; exact ho2) HQ.out.symm)
    have hb2 := (k1.tr k2).heap hbx id
    have HC2 := Lib.hid (show w2.cell? ⟨g0, 0, none⟩ = some (.int .i64 m) by rw [cell_of_row _ _ _ _ _ _ hb2]; rfl)
    have HK2 := Lib.hid ((hk0.tr k1).tr k2)
    clear ho2 hb2 k2 k1 hk0 hbx CC
    go_wp2_with fail
    with_reducible refine (CT.out B2 c2 w2 hr2.out HC2.out).mono ?_
    rintro e w3 ⟨rfl, k3⟩
    cases bad
    all_goals
      go_wp2_with fail
      go_ret
      exact ⟨rfl, HK2.out.tr k3⟩
end Go.Proofs.YtakgcnjpmpcekaaGreat
