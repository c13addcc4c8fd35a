/- Chapter 13: Peak: the walk. Printed by gen_pkw.py. -/
import Derived.Test.YtlieijnhaolnhaaGreatXPksM
import Derived.Test.YtlieijnhaolnhaaGreatXLibBoxM
import Derived.Test.YtlieijnhaolnhaaGreatXChkM
namespace Go.Proofs.YtlieijnhaolnhaaGreat
open Go.RowKit Go.Kq

/-- A sum of intervals, one after another. -/
def sumF : List (Int × Int) → Int × Int → IvE
  | [], s => (s.1, s.2, 0)
  | x :: l, s => if (addE s x).2.2 = 0 then sumF l ((addE s x).1, (addE s x).2.1) else (0, 0, (addE s x).2.2)
def pkV (K : List (Int × Int)) (L : List Nat) : IvE := sumF (L.map fun i => K.getD i (0, 0)) (0, 0)
def pkBad (K : List (Int × Int)) (most : Int) : Bool := decide (most < 0) || decide (128 < most) || K.any kyB
theorem infoI : (Tryz.prog.info? 3).map (fun i => (i.zero, i.size, i.bytes)) = some (some (.int .i64 0), 1, 8) := by kernel_rfl
theorem flat_one {α : Type} (f : α → Value) : ∀ l : List α, l.flatMap (fun x => [f x]) = l.map f
  | [] => rfl
  | x :: l => by rw [List.flatMap_cons, flat_one f l]; rfl
theorem make_ns (m : Nat) (hm : m ≤ 100000) (w : World) : (Instr.makeSlice 44 (.int .i64 (m : Nat)) (.int .i64 (m : Nat))).run Tryz.prog w = .ok (.slice (some ⟨w.heap.size, 0, none⟩) m m) (w.alloc (.cells ((List.replicate m 0).map natV).toArray 3)) := by
  obtain ⟨i0, hi, hz0, hz1, hz2⟩ := info_parts infoI
  have := run_make_flat w (fun x : Nat => [natV x]) 0 _ _ i0 _ 1 8 m Tryz.underlying44 hi hz0 hz1 hz2 (by decide) rfl rfl (by omega) (by omega)
  rwa [flat_one] at this
/-- The first k numbers, then zeros. -/
def fillL (n k : Nat) : List Value := (List.range n).map fun j => natV (if j < k then j else 0)
theorem fill_zero (n : Nat) : fillL n 0 = (List.replicate n 0).map natV := by
  unfold fillL
  apply List.ext_getElem
  · simp
  · intro i h1 h2
    simp
theorem fill_set (n k : Nat) : (fillL n k).set k (natV k) = fillL n (k + 1) := by
  unfold fillL
  apply List.ext_getElem
  · simp
  · intro i h1 h2
    rw [List.getElem_set]
    simp only [List.getElem_map, List.getElem_range]
    by_cases h : k = i
    · subst h
      rw [if_pos rfl, if_pos (by omega)]
    · rw [if_neg h]
      by_cases h3 : i < k
      · rw [if_pos h3, if_pos (by omega)]
      · rw [if_neg h3, if_neg (by omega)]
theorem fill_all (n : Nat) : fillL n n = (List.range n).map natV := by
  unfold fillL
  refine List.map_congr_left fun j hj => ?_
  rw [if_pos (List.mem_range.1 hj)]
theorem fill_len (n k : Nat) : (fillL n k).length = n := by unfold fillL; simp
theorem fill_at (n k : Nat) (h : k < n) : (fillL n k)[k]? = some (natV 0) := by
  unfold fillL
  simp [h]
theorem own_take {w : World} {base g n k cap : Nat} {e : TypeId} {xs : List Value} (h : w.ownsRow base e 1 (.slice (some ⟨g, 0, none⟩) n cap) n xs) (hk : k ≤ n) : w.ownsRow base e 1 (.slice (some ⟨g, 0, none⟩) k cap) k (xs.take k) := by
  obtain ⟨hl, h0 | ⟨g', cap', cur, hv, hb, hg, h1, h2, h3, h4⟩⟩ := h
  · cases h0.1
  · cases hv
    refine ⟨by rw [List.length_take]; omega, .inr ⟨_, _, cur, rfl, hb, hg, by omega, h2, h3, ?_⟩⟩
    rw [← h4, Nat.mul_one, Nat.mul_one, List.take_take, Nat.min_eq_left (by omega)]
set_option maxHeartbeats 2000000 in
theorem peak_long (A : Option Addr) (n ca : Nat) (most : Int) (w : World) (hn : 128 < n) :
    Calls Tryz.prog 19 #[.slice A n ca, .int .i64 most] w fun e w' => e = .returned (.tuple #[ivV 0 0, .slice none 0 0, .int .i64 3]) ∧ Kp No w w' := by
  unfold ivV
  go_enter Tryz.func19, Tryz.ntmps19
  go_wp2
  exact bodyPost_ret (v := .tuple #[.agg #[.int .i64 0, .int .i64 0], .slice none 0 0, .int .i64 3]) (by simp [results, Tryz.results19, go_sem]) rfl ⟨rfl, (Kp.alloc No _ _).tr (Kp.alloc No _ _)⟩
set_option maxHeartbeats 2000000 in
theorem peak_bad (A : Option Addr) (n ca : Nat) (K : List (Int × Int)) (most : Int) (w : World) (hK : Rd ivC 2 w A n K) (hn : n ≤ 128) (hb : pkBad K most = true) :
    Calls Tryz.prog 19 #[.slice A n ca, .int .i64 most] w fun e w' => e = .returned (.tuple #[ivV 0 0, .slice none 0 0, .int .i64 2]) ∧ Kp No w w' := by
  unfold ivV
  have CT := Lib.hid (fun w0 hk => contains_iv A n ca K kyB w0 (hK.no (w' := w0) hk) (by omega) (fun v w' _ => peak1_any v w'))
  have hcs : most < 0 ∨ 128 < most ∨ (0 ≤ most ∧ most ≤ 128 ∧ K.any kyB = true) := by
    unfold pkBad at hb
    simp only [Bool.or_eq_true, decide_eq_true_eq] at hb
    by_cases a1 : most < 0
    · exact .inl a1
    · by_cases a2 : 128 < most
      · exact .inr (.inl a2)
      · exact .inr (.inr ⟨by omega, by omega, hb.resolve_left (fun h => h.elim a1 a2)⟩)
  clear hb hK
  rcases hcs with h | h | ⟨h1, h2, h3⟩
  · go_enter Tryz.func19, Tryz.ntmps19
    go_wp2
    exact bodyPost_ret (v := .tuple #[.agg #[.int .i64 0, .int .i64 0], .slice none 0 0, .int .i64 2]) (by simp [results, Tryz.results19, go_sem]) rfl ⟨rfl, (Kp.alloc No _ _).tr (Kp.alloc No _ _)⟩
  · go_enter Tryz.func19, Tryz.ntmps19
    go_wp2
    exact bodyPost_ret (v := .tuple #[.agg #[.int .i64 0, .int .i64 0], .slice none 0 0, .int .i64 2]) (by simp [results, Tryz.results19, go_sem]) rfl ⟨rfl, (Kp.alloc No _ _).tr (Kp.alloc No _ _)⟩
  · rw [h3] at CT
    clear h3
    go_enter Tryz.func19, Tryz.ntmps19
    go_wp2_with fail
    refine (CT.out _ ((Kp.alloc No _ _).tr (Kp.alloc No _ _))).mono ?_
    rintro e w1 ⟨rfl, k1⟩
    obtain ⟨r0, r1, z0, z1⟩ := two_cells (k1.heap (at_new (n := w.heap.size + 1) (by simp)) id)
    have KK := Lib.hid (((Kp.alloc No w _).tr (Kp.alloc No _ _)).tr k1)
    clear k1
    go_wp2_with fail
    exact bodyPost_ret (v := .tuple #[.agg #[.int .i64 0, .int .i64 0], .slice none 0 0, .int .i64 2]) (by simp [results, Tryz.results19, go_sem, r0, r1]) rfl ⟨rfl, kp_set2 KK.out (by omega)⟩
/-- What Peak gives where nothing is wrong with the keys. -/
def PeakP (K : List (Int × Int)) (m : Nat) (w : World) (e : Ending) (w' : World) : Prop :=
  ∃ L v, Top K m L ∧ e = .returned (.tuple #[ivV (pkV K L).1 (pkV K L).2.1, v, .int .i64 (pkV K L).2.2]) ∧ Kp No w w' ∧ ((pkV K L).2.2 = 0 → w'.ownsRow w.heap.size 3 1 v L.length (L.map natV)) ∧ ((pkV K L).2.2 ≠ 0 → v = .slice none 0 0)
theorem sumF_step {K : List (Int × Int)} {L : List Nat} {j t : Nat} {x : Int × Int} {s : Int × Int} {a : IvE} (ht : L[j]? = some t) (hx : K[t]? = some x) (ha : addE s x = a) (hs : sumF ((L.drop j).map fun i => K.getD i (0, 0)) s = pkV K L) :
    if a.2.2 = 0 then sumF ((L.drop (j + 1)).map fun i => K.getD i (0, 0)) (a.1, a.2.1) = pkV K L else pkV K L = (0, 0, a.2.2) := by
  have hj := (List.getElem?_eq_some_iff.1 ht).1
  rw [List.drop_eq_getElem_cons hj] at hs
  have e : L[j] = t := (List.getElem?_eq_some_iff.1 ht).2
  simp only [List.map_cons, e, List.getD_eq_getElem?_getD, hx, Option.getD_some, sumF, ha] at hs
  split
  · rename_i h
    rw [if_pos h] at hs
    simpa only [List.getD_eq_getElem?_getD] using hs
  · rename_i h
    rw [if_neg h] at hs
    exact hs.symm
set_option maxHeartbeats 8000000 in
set_option maxRecDepth 100000 in
theorem peak_ok (A : Option Addr) (n ca m : Nat) (K : List (Int × Int)) (w : World) (hK : Rd ivC 2 w A n K) (hn : n ≤ 128) (hb : pkBad K (m : Nat) = false) :
    Calls Tryz.prog 19 #[.slice A n ca, .int .i64 (m : Nat)] w (PeakP K m w) := by
  have hKl := hK.1
  have CT := Lib.hid (fun w0 hk => contains_iv A n ca K kyB w0 (hK.no (w' := w0) hk) (by omega) (fun v w' _ => peak1_any v w'))
  have h0 : (0 : Int) ≤ (m : Int) := by omega
  have h1 : (m : Int) ≤ 128 ∧ K.any kyB = false := by
    unfold pkBad at hb
    simp only [Bool.or_eq_false_iff, decide_eq_false_iff_not] at hb
    exact ⟨by omega, hb.2⟩
  obtain ⟨h1, h2⟩ := h1
  rw [h2] at CT
  have hmk := make_ns n (by omega)
  have HK := Lib.hid hK
  have HKL := Lib.hid hKl
  clear hb hK h2 hKl
  go_enter Tryz.func19, Tryz.ntmps19
  go_wp2_with fail
  refine (CT.out _ ((Kp.alloc No _ _).tr (Kp.alloc No _ _))).mono ?_
  rintro e w1 ⟨rfl, k1⟩
  have R := Lib.hid (k1.heap (at_new (n := w.heap.size + 1) (by simp)) id)
  have kk0 := cell_of_one (k1.heap ((Kp.alloc No _ _).heap (at_new (n := w.heap.size) rfl) id) id)
  have hw1 : w.heap.size + 1 < w1.heap.size := (Array.getElem?_eq_some_iff.1 R.out).1
  have KK := Lib.hid (((Kp.alloc No w _).tr (Kp.alloc No _ _)).tr k1)
  clear k1 CT
  go_wp2_with fail
  clear hmk
  go_loopw [36] (fun i wr => ∃ k : Nat, k ≤ n ∧ i = .int .i64 k ∧ wr.ownsRow w.heap.size 3 1 (.slice (some ⟨w1.heap.size, 0, none⟩) n n) n (fillL n k) ∧ Kp No w1 wr) (fun i _ => n - (intOf i).toNat)
  case atStart =>
    refine ⟨0, by omega, rfl, ?_, Kp.alloc _ _ _⟩
    rw [fill_zero]
    have h := own_made w1 (e := 3) (n := n) (s := 1) (base := w.heap.size) (xs := (List.replicate n 0).map natV) (by simp) (by omega) (by unfold maxLen; omega)
    simpa using h
  case round =>
    obtain ⟨k, hk, rfl, hown, hkp⟩ := hrel
    by_cases hlt : k < n
    · have c0 := own_cell hown (fill_at n k hlt)
      have f0 := own_free hown k
      have O2 := Lib.hid (own_set hown k (natV k))
      rw [fill_set] at O2
      have K2 := Lib.hid (hkp.trans (kp_setOne wr w1.heap.size k (natV k)) (fun k hk e => by unfold Kq.One at e; omega))
      clear hown hkp
      unfold natV at O2 K2 c0
      go_wp2
      go_roundw
      case rel => exact ⟨k + 1, by omega, by go_num, O2.out, K2.out⟩
      case measure => simp [intOf]; omega
    · obtain rfl : n = k := by omega
      rw [fill_all] at hown
      have kk0 := hkp.cell kk0 id
      have hz := hkp.size
      have SF := Lib.hid (sortf_any w.heap.size w1.heap.size n w.heap.size n A ca K wr kk0 ((HK.out.no KK.out).no hkp) (by omega) (by omega) (fun h b o hA e => by
        subst hA e
        obtain ⟨_, _, e2, hb, _⟩ := HK.out.2 0 (K[0]'(by have := HKL.out; omega)) (List.getElem?_eq_getElem _)
        cases e2
        omega) hown)
      have K2 := Lib.hid (KK.out.tr hkp)
      have R2 := Lib.hid (hkp.heap R.out id)
      have HKN := Lib.hid (show ∀ w' : World, Kp (Kq.One w1.heap.size) wr w' → w'.cell? ⟨w.heap.size, 0, none⟩ = some (.slice A n ca) ∧ w'.heap[w.heap.size + 1]? = some (.cells #[.int .i64 0, .int .i64 0] 25 (0, 0)) ∧ Kp No w w' from fun w' hk' => ⟨hk'.cell kk0 (fun e => by unfold Kq.One at e; simp only at e; omega), hk'.heap R2.out (fun e => by unfold Kq.One at e; omega), K2.out.trans hk' (fun k hk e => by unfold Kq.One at e; omega)⟩)
      clear hown hkp KK R kk0
      go_wp2_with fail
      refine SF.out.mono ?_
      rintro e w2 ⟨rfl, S, hSp, hSo, ho2, k2⟩
      obtain ⟨q, hq⟩ : ∃ q, q = min m n := ⟨_, rfl⟩
      have hmin : min (m : Int) (n : Int) = (q : Int) := by omega
      have hqn : (q : Int) ≤ (n : Int) := by omega
      have hq0 : (0 : Int) ≤ (q : Int) := by omega
      have htq : ((q : Nat) : Int).toNat = q := by omega
      have hqn' : q ≤ n := by omega
      have ho3 := own_take ho2 hqn'
      rw [← List.map_take] at ho3
      have SO := Lib.hid (sorto_any w1.heap.size q w.heap.size n (S.take q) w2 (by omega) ho3)
      have HS := Lib.hid (And.intro hSp hSo)
      have HQ := Lib.hid hq
      have K3 := Lib.hid k2
      clear hSp hSo ho2 ho3 k2 SF hq
      by_cases hmn : (m : Int) ≤ (n : Int)
      all_goals
        go_wp2_with fail
        refine SO.out.mono ?_
        rintro e w3 ⟨rfl, L, hLp, hLo, ho4, k4⟩
        have hTop : Top K m L := by
          have hKl := HKL.out
          have hq := HQ.out
          refine top_of (S := S) (by rw [hKl]; exact HS.out.1) HS.out.2 ?_ hLo
          have hSl : S.length = n := by rw [HS.out.1.length_eq, List.length_range]
          have e : S.take q = S.take m := by
            rcases Nat.le_total m n with h | h
            · rw [show q = m by omega]
            · rw [List.take_of_length_le (by omega), List.take_of_length_le (by omega)]
          rw [e] at hLp
          exact hLp
        have hLl : L.length = q := by rw [hTop.len, HKL.out]; exact HQ.out.symm
        obtain ⟨kk0, R3, K4⟩ := HKN.out w3 (K3.out.tr k4)
        have HT := Lib.hid hTop
        have HLL := Lib.hid hLl
        have HO4 := Lib.hid ho4
        have R3 := Lib.hid R3
        have K4 := Lib.hid K4
        have KK0 := Lib.hid kk0
        have hw3 : w.heap.size + 1 < w3.heap.size := (Array.getElem?_eq_some_iff.1 R3.out).1
        clear hLp hLo ho4 k4 hTop hLl SO K3 HKN HS hmin kk0 K2 R2
        go_wp2_with fail
        go_loopw [57] (fun i wq => ∃ (j : Nat) (s1 s2 : Int), j ≤ q ∧ i = .int .i64 j ∧ wq.heap[w3.heap.size]? = some (.cells #[.int .i64 s1, .int .i64 s2] 25 (0, 0)) ∧ sumF ((L.drop j).map fun i => K.getD i (0, 0)) (s1, s2) = pkV K L ∧ Kp No w3 wq) (fun i _ => q - (intOf i).toNat)
        case atStart => exact ⟨0, 0, 0, by omega, rfl, at_new rfl, rfl, Kp.alloc _ _ _⟩
        case round =>
          obtain ⟨j, s1, s2, hj, rfl, hb9, hsum, hkq⟩ := hrel
          obtain ⟨m0, m1, n0, n1⟩ := two_cells hb9
          by_cases hlt : j < q
          · obtain ⟨t, ht⟩ : ∃ t, L[j]? = some t := ⟨_, List.getElem?_eq_getElem (by have := HLL.out; omega)⟩
            have htn := HT.out.lt (List.mem_of_getElem? ht)
            rw [HKL.out] at htn
            obtain ⟨⟨x1, x2⟩, hxt⟩ : ∃ x, K[t]? = some x := ⟨_, List.getElem?_eq_getElem (by have := HKL.out; omega)⟩
            obtain ⟨bK, oK, rfl, _, hc⟩ := HK.out.2 t _ hxt
            have xc0 := (K4.out.tr hkq).cell (hc 0 _ rfl) id
            have xc1 := (K4.out.tr hkq).cell (hc 1 _ rfl) id
            simp only [Nat.add_zero] at xc0
            have kk0 := hkq.cell KK0.out id
            have lc := own_cell (own_kp HO4.out hkq (fun _ _ h => h)) (j := j) (u := natV t) (by rw [List.getElem?_map, ht]; rfl)
            unfold natV at lc
            have AD := fun w0 => add_any (s1, s2) (x1, x2) w0
            obtain ⟨⟨v1, v2, v3⟩, hA⟩ : ∃ a, addE (s1, s2) (x1, x2) = a := ⟨_, rfl⟩
            have ST := sumF_step ht hxt hA hsum
            rw [hA] at AD
            simp only [ieV, ivV] at AD ST
            have AD := Lib.hid AD
            have ST := Lib.hid ST
            have KQ := Lib.hid hkq
            have HB9 := Lib.hid hb9
            have ht0 : (0 : Int) ≤ (t : Int) := by omega
            have htn' : (t : Int) < (n : Int) := by omega
            have htt : ((t : Nat) : Int).toNat = t := by omega
            have hb9l : w3.heap.size < wr.heap.size := (Array.getElem?_eq_some_iff.1 hb9).1
            clear ht htn hxt hc hA hsum hkq hb9
            go_wp2_with fail
            have HV : ∀ y ∈ [(⟨9, 10, 25, #[.int .i64 0, .int .i64 0], #[.int .i64 v1, .int .i64 v2], ptrV⟩ : Bx)], ∀ {p q : Nat}, y.v p = y.v q → p = q := by intro y hy; simp only [List.mem_cons, List.not_mem_nil, or_false] at hy; rcases hy with rfl <;> exact fun {p q} h => ptrV_inj h
            have HS0 : ∀ y ∈ [(⟨9, 10, 25, #[.int .i64 0, .int .i64 0], #[.int .i64 v1, .int .i64 v2], ptrV⟩ : Bx)], y.a = (⟨9, 10, 25, #[.int .i64 0, .int .i64 0], #[.int .i64 v1, .int .i64 v2], ptrV⟩ : Bx).a → y = (⟨9, 10, 25, #[.int .i64 0, .int .i64 0], #[.int .i64 v1, .int .i64 v2], ptrV⟩ : Bx) := by intro y hy; simp only [List.mem_cons, List.not_mem_nil, or_false] at hy; rcases hy with rfl <;> simp
            have HM0 : (⟨9, 10, 25, #[.int .i64 0, .int .i64 0], #[.int .i64 v1, .int .i64 v2], ptrV⟩ : Bx) ∈ [(⟨9, 10, 25, #[.int .i64 0, .int .i64 0], #[.int .i64 v1, .int .i64 v2], ptrV⟩ : Bx)] := by simp
            have HS0 := Lib.hid HS0
            have HM0 := Lib.hid HM0
            have HV := Lib.hid HV
            refine wp_region_each (fun i u => match i with | 0 => u = .agg #[.int .i64 s1, .int .i64 s2] | 1 => u = .slice (some ⟨bK, oK, none⟩) n ca | 2 => u = .int .i64 (t : Nat) | 3 => u = .pointer (some ⟨bK, oK + t * 2, none⟩) | 4 => u = .agg #[.int .i64 x1, .int .i64 x2] | 5 => u = .tuple #[.agg #[.int .i64 v1, .int .i64 v2], .int .i64 v3] | 6 => u = .tuple #[.agg #[.int .i64 v1, .int .i64 v2], .int .i64 v3] | 7 => u = .agg #[.int .i64 v1, .int .i64 v2] | 8 => u = .int .i64 v3 | 11 => u = .int .i64 v3 | _ => True) (BxW wr [(⟨9, 10, 25, #[.int .i64 0, .int .i64 0], #[.int .i64 v1, .int .i64 v2], ptrV⟩ : Bx)]) (by kernel_rfl) (by kernel_rfl) (by kernel_rfl) ?_ ?_ ?_
            · exact BxW.start _ _
            · refine ⟨?_, ?_, ?_, ?_, ?_, ?_, ?_, ?_, ?_, ?_, ?_, ?_, trivial⟩
              · intro r a w' hf hg hW hr hd K hK
                refine wpOp_of rfl rfl ?_
                have y0 : a.tmps.getD 9 undef = .pointer (some ⟨w3.heap.size, 0, none⟩) := hf.evalFree (by kernel_rfl)
                have z0 := hW.kp.cell m0 id
                have z1 := hW.kp.cell m1 id
                go_simp
                exact hK _ _ rfl (hW.upd (by kernel_rfl) _)
              · intro r a w' hf hg hW hr hd K hK
                refine wpOp_of rfl rfl ?_
                have y0 : a.tmps.getD 2 undef = .pointer (some ⟨w.heap.size, 0, none⟩) := hf.evalFree (by kernel_rfl)
                have z0 := hW.kp.cell kk0 id
                go_simp
                exact hK _ _ rfl (hW.upd (by kernel_rfl) _)
              · intro r a w' hf hg hW hr hd K hK
                refine wpOp_of rfl rfl ?_
                have y0 : a.tmps.getD 11 undef = .int .i64 (t : Nat) := hf.evalFree (by kernel_rfl)
                go_simp
                exact hK _ _ rfl (hW.upd (by kernel_rfl) _)
              · intro r a w' hf hg hW hr hd K hK
                refine wpOp_of rfl rfl ?_
                refine hf.depE hg hd 1 63 (by kernel_rfl) fun u0 e0 g0 h0 => ?_
                replace g0 : u0 = .slice (some ⟨bK, oK, none⟩) n ca := g0
                subst g0
                refine hf.depE hg hd 2 64 (by kernel_rfl) fun u1 e1 g1 h1 => ?_
                replace g1 : u1 = .int .i64 (t : Nat) := g1
                subst g1
                go_simp
                exact hK _ _ rfl (hW.upd (by kernel_rfl) _)
              · intro r a w' hf hg hW hr hd K hK
                refine wpOp_of rfl rfl ?_
                refine hf.depE hg hd 3 65 (by kernel_rfl) fun u0 e0 g0 h0 => ?_
                replace g0 : u0 = .pointer (some ⟨bK, oK + t * 2, none⟩) := g0
                subst g0
                have z0 := hW.kp.cell xc0 id
                have z1 := hW.kp.cell xc1 id
                go_simp
                exact hK _ _ rfl (hW.upd (by kernel_rfl) _)
              · intro r a w' hf hg hW hr hd K hK
                refine wpOp_of rfl rfl ?_
                refine hf.depE hg hd 0 62 (by kernel_rfl) fun u0 e0 g0 h0 => ?_
                replace g0 : u0 = .agg #[.int .i64 s1, .int .i64 s2] := g0
                subst g0
                refine hf.depE hg hd 4 66 (by kernel_rfl) fun u1 e1 g1 h1 => ?_
                replace g1 : u1 = .agg #[.int .i64 x1, .int .i64 x2] := g1
                subst g1
                go_simp
                with_reducible refine (AD.out _).mono ?_
                rintro e w'' ⟨rfl, k⟩
                exact hK _ _ rfl ((hW.call k).upd (by kernel_rfl) _)
              · intro r a w' hf hg hW hr hd K hK
                refine wpOp_of rfl rfl ?_
                refine hf.depE hg hd 5 67 (by kernel_rfl) fun u0 e0 g0 h0 => ?_
                replace g0 : u0 = .tuple #[.agg #[.int .i64 v1, .int .i64 v2], .int .i64 v3] := g0
                subst g0
                go_simp
                exact hK _ _ rfl (hW.upd (by kernel_rfl) _)
              · intro r a w' hf hg hW hr hd K hK
                refine wpOp_of rfl rfl ?_
                refine hf.depE hg hd 6 61 (by kernel_rfl) fun u0 e0 g0 h0 => ?_
                replace g0 : u0 = .tuple #[.agg #[.int .i64 v1, .int .i64 v2], .int .i64 v3] := g0
                subst g0
                have e0' := get_of_getD e0
                go_simp
                exact hK _ _ rfl (hW.upd (by kernel_rfl) _)
              · intro r a w' hf hg hW hr hd K hK
                refine wpOp_of rfl rfl ?_
                refine hf.depE hg hd 6 61 (by kernel_rfl) fun u0 e0 g0 h0 => ?_
                replace g0 : u0 = .tuple #[.agg #[.int .i64 v1, .int .i64 v2], .int .i64 v3] := g0
                subst g0
                have e0' := get_of_getD e0
                go_simp
                exact hK _ _ rfl (hW.upd (by kernel_rfl) _)
              · intro r a w' hf hg hW hr hd K hK
                refine wpOp_of rfl rfl ?_
                go_simp
                exact hK _ _ trivial (hW.alloc (by kernel_rfl) HM0.out hr HV.out HS0.out)
              · intro r a w' hf hg hW hr hd K hK
                refine wpOp_of rfl rfl ?_
                refine hf.depE hg hd 7 68 (by kernel_rfl) fun u0 e0 g0 h0 => ?_
                replace g0 : u0 = .agg #[.int .i64 v1, .int .i64 v2] := g0
                subst g0
                refine hf.depE hg hd 9 12 (by kernel_rfl) fun u1 e1 _ h1 => ?_
                obtain ⟨g, hu, hgl, _, hz⟩ := hW.empty HM0.out hr h1
                subst hu
                simp only [ptrV] at e1
                obtain ⟨a0, a1, f0, f1⟩ := two_cells hz
                go_simp
                exact hK undef _ trivial (hW.store (by kernel_rfl) HM0.out h1 hgl HV.out HS0.out (kp_two _ _ _ _) (set2 (.int .i64 v1) (.int .i64 v2) hz) _)
              · intro r a w' hf hg hW hr hd K hK
                refine wpOp_of rfl rfl ?_
                refine hf.depE hg hd 8 69 (by kernel_rfl) fun u0 e0 g0 h0 => ?_
                replace g0 : u0 = .int .i64 v3 := g0
                subst g0
                go_simp
                exact hK _ _ rfl (hW.upd (by kernel_rfl) _)
            intro r' w4 hg hW hr'
            obtain ⟨g0, hg0, hl0, hm0, hb0⟩ := hW.filled HM0.out (hr' 10 (by decide))
            have hkN := hW.kp
            obtain ⟨q11, hq11⟩ : ∃ u, r' 11 = some u := Option.ne_none_iff_exists'.1 (hr' 11 (by decide))
            have hk11 := hg 11 q11 hq11
            replace hk11 : q11 = .int .i64 v3 := hk11
            subst hk11
            replace hg0 : r' 9 = some (.pointer (some ⟨g0, 0, none⟩)) := hg0
            simp only [List.length_cons, List.length_nil, Nat.reduceAdd, List.range_succ, List.range_zero, List.nil_append, List.cons_append, List.map_cons, List.map_nil, putAll, Act.put, List.setIfInBounds_toArray, List.set_cons_succ, List.set_cons_zero, hg0, hq11, Option.getD_some]
            clear hg hW hr' hg0 HM0 HS0 HV hq11
            obtain ⟨e0, e1, _, _⟩ := two_cells hb0
            have KN := Lib.hid (KQ.out.tr hkN)
            by_cases hv : v3 = 0
            · subst hv
              have hs2 : sumF ((L.drop (j + 1)).map fun i => K.getD i (0, 0)) (v1, v2) = pkV K L := by
                have := ST.out
                rwa [if_pos rfl] at this
              have HB := Lib.hid (hkN.heap HB9.out id)
              obtain ⟨m0, m1, n0, n1⟩ := two_cells HB.out
              have HS2 := Lib.hid hs2
              clear hs2 ST hb0 hkN xc0 xc1 lc AD
              go_wp2_with fail
              have B9 := set2 (.int .i64 v1) (.int .i64 v2) HB.out
              have K9 := kp_set2 (x := .int .i64 v1) (y := .int .i64 v2) KN.out (Nat.le_refl w3.heap.size)
              have B9 := Lib.hid B9
              have K9 := Lib.hid K9
              go_roundw
              case rel => exact ⟨j + 1, v1, v2, by omega, by go_num, B9.out, HS2.out, K9.out⟩
              case measure => simp [intOf]; omega
            · have hs2 : pkV K L = (0, 0, v3) := by
                have := ST.out
                rwa [if_neg hv] at this
              have hz3 : (v3 == 0) = false := by rw [beq_eq_false_iff_ne]; exact hv
              have hz4 : (v3 != 0) = true := by rw [bne_iff_ne]; exact hv
              obtain ⟨r0, r1, f0, f1⟩ := two_cells (KN.out.heap R3.out id)
              have HS2 := Lib.hid hs2
              have HV3 := Lib.hid hv
              clear hs2 ST hb0 hkN xc0 xc1 lc AD hv
              go_wp2_with fail
              refine bodyPost_ret (v := .tuple #[.agg #[.int .i64 0, .int .i64 0], .slice none 0 0, .int .i64 v3]) (by simp [results, Tryz.results19, go_sem, r0, r1]) rfl (show PeakP K m w _ _ from ⟨L, .slice none 0 0, HT.out, by rw [HS2.out]; rfl, kp_set2 (K4.out.tr KN.out) (by omega), fun h => ?_, fun _ => rfl⟩)
              rw [HS2.out] at h
              exact absurd h HV3.out
          · obtain rfl : j = q := by omega
            have hd : L.drop j = [] := List.drop_of_length_le (by have := HLL.out; omega)
            rw [hd] at hsum
            have HSM := Lib.hid (show pkV K L = (s1, s2, 0) from hsum.symm)
            have KQ := Lib.hid (K4.out.tr hkq)
            have OQ := Lib.hid (own_kp HO4.out hkq (fun _ _ h => h))
            obtain ⟨r0, r1, f0, f1⟩ := two_cells (hkq.heap R3.out id)
            have zz : w.heap.size + 1 ≠ w3.heap.size := by omega
            have zw : w.heap.size + 1 ≠ w1.heap.size := by omega
            clear hd hsum hkq hb9
            go_wp2_with fail
            refine bodyPost_ret (v := .tuple #[.agg #[.int .i64 s1, .int .i64 s2], .slice (some ⟨w1.heap.size, 0, none⟩) j n, .int .i64 0]) (by simp [results, Tryz.results19, go_sem, r0, r1]) rfl (show PeakP K m w _ _ from ⟨L, .slice (some ⟨w1.heap.size, 0, none⟩) j n, HT.out, by rw [HSM.out]; rfl, kp_set2 KQ.out (by omega), fun _ => ?_, fun h => ?_⟩)
            · rw [HLL.out]
              exact own_kp OQ.out (kp_two _ _ _ _) (fun g hg e => by unfold Kq.One at e; cases hg; exact zw e.symm)
            · rw [HSM.out] at h
              exact absurd rfl h
end Go.Proofs.YtlieijnhaolnhaaGreat
