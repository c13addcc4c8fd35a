/- Chapter 13: law 5 (DemandMost). -/
import Derived.Test.YtlieijnhaolnhaaAwk
namespace Go.Proofs.Ytlieijnhaolnhaa
open Go.RowKit Go.Kq

theorem addE_ok {s x : Int × Int} (h : (addE s x).2.2 = 0) : addE s x = (s.1 + x.1, s.2 + x.2, 0) := by
  unfold addE at *
  by_cases h0 : ckE [s, x] = 0
  · rw [if_pos h0] at h ⊢
    unfold fitE at *
    by_cases h1 : (fits (s.1 + x.1) && fits (s.2 + x.2)) = true
    · rw [if_pos h1]
    · rw [if_neg h1] at h
      exact absurd h (by decide)
  · rw [if_neg h0] at h
    exact absurd h h0
theorem sumF_hi : ∀ (l : List (Int × Int)) (s : Int × Int), (sumF l s).2.2 = 0 → (sumF l s).2.1 = s.2 + sumL (fun x : Int × Int => x.2) l
  | [], s, _ => by simp [sumF, sumL]
  | x :: l, s, h => by
    unfold sumF at h ⊢
    by_cases h0 : (addE s x).2.2 = 0
    · rw [if_pos h0] at h ⊢
      rw [sumF_hi l _ h, sumL_cons, addE_ok h0]
      simp only
      omega
    · rw [if_neg h0] at h
      exact absurd h h0
theorem sumF_err : ∀ (l : List (Int × Int)) (s : Int × Int), (sumF l s).2.2 ≠ 0 → sumF l s = (0, 0, (sumF l s).2.2)
  | [], s, h => absurd rfl h
  | x :: l, s, h => by
    unfold sumF at h ⊢
    by_cases h0 : (addE s x).2.2 = 0
    · rw [if_pos h0] at h ⊢
      exact sumF_err l _ h
    · rw [if_neg h0]
theorem pk_hi {K : List (Int × Int)} {L : List Nat} (h : (pkV K L).2.2 = 0) : (pkV K L).2.1 = sumL (kHi K) L := by
  unfold pkV at h ⊢
  rw [sumF_hi _ _ h]
  simp only [sumL, List.map_map, Int.zero_add]
  rfl
theorem ky_of {K : List (Int × Int)} (h : K.any kyB = false) {i : Nat} (hi : i < K.length) : 0 ≤ kLo K i ∧ kLo K i ≤ kHi K i := by
  rw [List.any_eq_false] at h
  have := h K[i] (List.getElem_mem hi)
  unfold kyB at this
  simp only [Bool.not_eq_true, Bool.or_eq_false_iff, decide_eq_false_iff_not, Decidable.not_not] at this
  have h2 := ck_le this.1 K[i] (by simp)
  unfold kLo kHi
  rw [List.getD_eq_getElem?_getD, List.getElem?_eq_getElem hi]
  simp only [Option.getD_some]
  omega
/-- The keys that are given, of the first k. -/
def gvn (bs : List Bool) (k : Nat) : List Nat := (List.range k).filter fun j => bs.getD j false
theorem gvn_snoc (bs : List Bool) (k : Nat) : gvn bs (k + 1) = gvn bs k ++ if bs.getD k false then [k] else [] := by
  unfold gvn
  rw [List.range_succ, List.filter_append]
  congr 1
  cases h : bs.getD k false <;> rw [List.getD_eq_getElem?_getD] at h <;> simp [List.filter_cons, h]
theorem gvn_len (bs : List Bool) (k : Nat) : (gvn bs k).length ≤ k := by
  have := List.length_filter_le (fun j => bs.getD j false) (List.range k)
  simpa [gvn] using this
theorem gvn_bd {K : List (Int × Int)} (bs : List Bool) : ∀ k : Nat, (∀ j, j < k → 0 ≤ kHi K j ∧ kHi K j ≤ 1000000000000) → 0 ≤ sumL (kHi K) (gvn bs k) ∧ sumL (kHi K) (gvn bs k) ≤ 1000000000000 * (k : Int)
  | 0, _ => by simp [gvn, sumL]
  | k + 1, h => by
    have ih := gvn_bd bs k fun j hj => h j (by omega)
    have := h k (by omega)
    rw [gvn_snoc, sumL_append]
    cases bs.getD k false
    · simp only [Bool.false_eq_true, if_false, sumL, List.map_nil, List.sum_nil] at ih ⊢
      omega
    · simp only [if_true, sumL_cons]
      simp only [sumL, List.map_nil, List.sum_nil] at ih ⊢
      omega
theorem gvn_most {K : List (Int × Int)} {m : Nat} {L : List Nat} (hT : Top K m L) (hK : K.any kyB = false) (bs : List Bool) (hl : (gvn bs K.length).length ≤ m) : sumL (kHi K) (gvn bs K.length) ≤ sumL (kHi K) L :=
  hT.best (fun i hi => by have := ky_of hK hi; omega) _ (List.nodup_range.filter _) (fun x hx => by
    unfold gvn at hx
    exact List.mem_range.1 (List.mem_filter.1 hx).1) hl
theorem take_bdL {K : List (Int × Int)} {L : List Nat} (hL : ∀ i ∈ L, 0 ≤ kHi K i ∧ kHi K i ≤ 1000000000000) : ∀ j : Nat, 0 ≤ sumL (kHi K) (L.take j) ∧ sumL (kHi K) (L.take j) ≤ 1000000000000 * ((L.take j).length : Int) := by
  suffices ∀ M : List Nat, (∀ i ∈ M, 0 ≤ kHi K i ∧ kHi K i ≤ 1000000000000) → 0 ≤ sumL (kHi K) M ∧ sumL (kHi K) M ≤ 1000000000000 * (M.length : Int) from fun j => this _ fun i hi => hL i (List.mem_of_mem_take hi)
  intro M
  induction M with
  | nil => intro _; simp [sumL]
  | cons x M ih =>
    intro h
    have h1 := ih fun i hi => h i (by simp [hi])
    have h2 := h x (by simp)
    rw [sumL_cons, List.length_cons]
    omega
set_option maxHeartbeats 4000000 in
set_option maxRecDepth 100000 in
theorem tmost_far (A M : Option Addr) (n ca mn cm : Nat) (most : Int) (w : World) (hf : 40 < n ∨ mn < n) :
    Calls Try.prog 5 #[.slice A n ca, .int .i64 most, .slice M mn cm] w fun e w' => e = .returned (.bool true) ∧ Kp No w w' := by
  have AW := Lib.hid awake_any
  by_cases h : 40 < n
  · clear hf
    go_enter Try.func5, Try.ntmps5
    go_wp2_with fail
    refine (AW.out _).mono ?_
    rintro e w1 ⟨rfl, k1⟩
    go_wp2_with fail
    go_ret
    exact ⟨rfl, k1⟩
  · have h2 : mn < n := by omega
    clear hf
    go_enter Try.func5, Try.ntmps5
    go_wp2_with fail
    refine (AW.out _).mono ?_
    rintro e w1 ⟨rfl, k1⟩
    go_wp2_with fail
    go_ret
    exact ⟨rfl, k1⟩
set_option maxHeartbeats 4000000 in
set_option maxRecDepth 100000 in
/-- Peak fails. -/
theorem tmost_err (A M : Option Addr) (n ca mn cm : Nat) (most z : Int) (w : World) (h40 : n ≤ 40) (hmn : n ≤ mn) (hz : z ≠ 0)
    (hP : Calls Try.prog 14 #[.slice A n ca, .int .i64 most] w fun e w' => e = .returned (.tuple #[ivV 0 0, .slice none 0 0, .int .i64 z]) ∧ Kp No w w') :
    Calls Try.prog 5 #[.slice A n ca, .int .i64 most, .slice M mn cm] w fun e w' => e = .returned (.bool true) ∧ Kp No w w' := by
  have AW := Lib.hid awake_any
  have PK := Lib.hid hP
  have hb : (z == 0) = false := by rw [beq_eq_false_iff_ne]; exact hz
  have hb2 : (z != 0) = true := by rw [bne_iff_ne]; exact hz
  have hg := iv_guard
  have q1 := iv_eql (0, 0) (0, 0)
  rw [show eqP (0, 0) (0, 0) = true from rfl] at q1
  simp only at q1
  clear hP hz
  unfold ivV at PK
  go_enter Try.func5, Try.ntmps5
  go_wp2_with fail
  refine PK.out.mono ?_
  rintro e w1 ⟨rfl, k1⟩
  go_wp2_with fail
  refine (AW.out _).mono ?_
  rintro e w2 ⟨rfl, k2⟩
  go_wp2_with fail
  go_ret
  exact ⟨rfl, k1.tr ((Kp.alloc No _ _).tr k2)⟩
set_option maxHeartbeats 8000000 in
set_option maxRecDepth 100000 in
theorem tmost_ok (A M : Option Addr) (n ca mn cm m : Nat) (K : List (Int × Int)) (bs : List Bool) (w : World) (hx : Rd ivC 2 w A n K) (hb : RdB w M mn bs) (h40 : n ≤ 40) (hmn : n ≤ mn) (hm : m ≤ 128)
    (hK : K.any kyB = false) (hP : Calls Try.prog 14 #[.slice A n ca, .int .i64 (m : Nat)] w (PeakP K m w)) :
    Calls Try.prog 5 #[.slice A n ca, .int .i64 (m : Nat), .slice M mn cm] w fun e w' => e = .returned (.bool true) ∧ Kp No w w' := by
  have hKl := hx.1
  have hbl := hb.1
  have AW := Lib.hid awake_any
  have PK := Lib.hid hP
  have HX := Lib.hid hx
  have HB := Lib.hid hb
  have HK := Lib.hid hK
  have HKL := Lib.hid hKl
  have HBL := Lib.hid hbl
  clear hx hb hK hP hKl hbl
  go_enter Try.func5, Try.ntmps5
  go_wp2_with fail
  refine PK.out.mono ?_
  intro e w1 hP
  unfold PeakP at hP
  obtain ⟨L, v, hT, rfl, hk0, hov, hnil⟩ := hP
  clear PK
  have hLl := hT.len
  have hhi := pk_hi (K := K) (L := L)
  have her := sumF_err (L.map fun i => K.getD i (0, 0)) (0, 0)
  change (pkV K L).2.2 ≠ 0 → pkV K L = (0, 0, (pkV K L).2.2) at her
  generalize hpv : pkV K L = pv at *
  obtain ⟨lo, hi, er⟩ := pv
  simp only at hov hnil hhi her
  by_cases hz : er = 0
  rotate_left
  · have hb1 : (er == 0) = false := by rw [beq_eq_false_iff_ne]; exact hz
    have hb2 : (er != 0) = true := by rw [bne_iff_ne]; exact hz
    have hg := iv_guard
    have q1 := iv_eql (0, 0) (0, 0)
    rw [show eqP (0, 0) (0, 0) = true from rfl] at q1
    simp only at q1
    obtain rfl := hnil hz
    have h0 := her hz
    injection h0 with h1 h2
    injection h2 with h2 h3
    subst h1 h2
    have K0 := Lib.hid hk0
    clear hov hnil hhi her hT hLl hpv hk0 hz
    unfold ivV
    go_wp2_with fail
    refine (AW.out _).mono ?_
    rintro e w2 ⟨rfl, k2⟩
    go_wp2_with fail
    go_ret
    exact ⟨rfl, K0.out.tr ((Kp.alloc No _ _).tr k2)⟩
  subst hz
  replace hhi := hhi rfl
  replace hov := hov rfl
  obtain ⟨a1, c1, rfl, _, _, ha1⟩ := own_form hov
  have hL40 : (L.length : Int) ≤ 40 := by
    have := HKL.out
    omega
  have HT := Lib.hid hT
  have HHI := Lib.hid hhi
  have K0 := Lib.hid hk0
  have OV := Lib.hid hov
  have HLL := Lib.hid hLl
  have HA1 := Lib.hid ha1
  clear hT hhi hk0 hov hLl ha1 hnil her hpv
  unfold ivV
  go_wp2_with fail
  go_loop [10, 11, 13] (fun s c i => ∃ k : Nat, k ≤ n ∧ i = .int .i64 k ∧ s = .int .i64 (sumL (kHi K) (gvn bs k)) ∧ c = .int .i64 ((gvn bs k).length : Nat) ∧ ∀ j, j < k → kHi K j ≤ 1000000000000) (fun _ _ i => n - (intOf i).toNat)
  case atStart => exact ⟨0, by omega, rfl, rfl, rfl, fun j h => by omega⟩
  case round =>
    obtain ⟨k, hk, rfl, rfl, rfl, hall⟩ := hrel
    by_cases hlt : k < n
    · obtain ⟨x, hxk⟩ : ∃ x, K[k]? = some x := ⟨_, List.getElem?_eq_getElem (by have := HKL.out; omega)⟩
      obtain ⟨bb, hbk⟩ : ∃ x, bs[k]? = some x := ⟨_, List.getElem?_eq_getElem (by have := HBL.out; omega)⟩
      obtain ⟨b, o, rfl, _, hc⟩ := HX.out.2 k x hxk
      obtain ⟨b', o', rfl, _, d0⟩ := HB.out.2 k bb hbk
      have hkx : kHi K k = x.2 := by unfold kHi; rw [List.getD_eq_getElem?_getD, hxk]; rfl
      have hky := ky_of HK.out (i := k) (by have := HKL.out; omega)
      rw [hkx] at hky
      have c1' := (K0.out.tr (Kp.alloc No _ (.cells #[.int .i64 lo, .int .i64 hi] 25))).cell (hc 1 _ rfl) id
      have d0' := (K0.out.tr (Kp.alloc No _ (.cells #[.int .i64 lo, .int .i64 hi] 25))).cell d0 id
      have hgs := gvn_snoc bs k
      have hgb : bs.getD k false = bb := by rw [List.getD_eq_getElem?_getD, hbk]; rfl
      rw [hgb] at hgs
      have hbd := gvn_bd (K := K) bs k (fun j hj => ⟨by have := ky_of HK.out (i := j) (by have := HKL.out; omega); omega, hall j hj⟩)
      have hgl := gvn_len bs k
      have GS := Lib.hid hgs
      have HALL := Lib.hid hall
      have HKX := Lib.hid hkx
      obtain ⟨x1, x2⟩ := x
      simp only at hky c1' HKX
      clear hc d0 hgs hall hkx hgb hxk hbk
      by_cases hbig : 1000000000000 < x2
      · go_wp2_with fail
        refine (AW.out _).mono ?_
        rintro e w2 ⟨rfl, k2⟩
        go_wp2_with fail
        go_ret
        exact ⟨rfl, K0.out.tr ((Kp.alloc No _ _).tr k2)⟩
      · generalize hsk : sumL (kHi K) (gvn bs k) = sk at *
        have HSK := Lib.hid hsk
        generalize hck : (gvn bs k).length = ck at *
        have HCK := Lib.hid hck
        clear hsk hck
        have hkk : (k : Int) ≤ 40 := by omega
        have hw1 : IntKind.i64.wrap (sk + x2) = sk + x2 := by rw [IntKind.wrap_i64]; omega
        have hall2 : ∀ j, j < k + 1 → kHi K j ≤ 1000000000000 := fun j hj => by
          by_cases e : j = k
          · rw [e, HKX.out]; omega
          · exact HALL.out j (by omega)
        have HALL2 := Lib.hid hall2
        clear hbd hall2
        cases bb
        · go_wp2
          go_round
          case rel => exact ⟨k + 1, by omega, by go_num, by rw [GS.out]; simp [HSK.out], by rw [GS.out]; simp [HCK.out], HALL2.out⟩
          case measure => simp [intOf]; omega
        · go_wp2
          go_round
          case rel =>
            refine ⟨k + 1, by omega, by go_num, ?_, ?_, HALL2.out⟩
            · rw [GS.out, if_pos rfl, sumL_append, HSK.out]
              simp [sumL, HKX.out]
            · rw [GS.out, if_pos rfl, List.length_append, HCK.out]
              simp
          case measure => simp [intOf]; omega
    · obtain rfl : n = k := by omega
      have hbdL := take_bdL (K := K) (L := L) (fun i hi => by
        have := HT.out.lt hi
        rw [HKL.out] at this
        exact ⟨by have := ky_of HK.out (i := i) (by have := HKL.out; omega); omega, hall i this⟩)
      have HBD := Lib.hid hbdL
      have HGL := Lib.hid (gvn_len bs n)
      have HGM := Lib.hid (gvn_most (m := m) HT.out HK.out bs)
      have HGB := Lib.hid (gvn_bd (K := K) bs n (fun j hj => ⟨by have := ky_of HK.out (i := j) (by have := HKL.out; omega); omega, hall j hj⟩))
      rw [HKL.out] at HGM
      have HALL := Lib.hid hall
      clear hall hbdL
      generalize sumL (kHi K) (gvn bs n) = sm at *
      generalize (gvn bs n).length = cn at *
      have HC := Lib.hid (at_new (w := w1) (o := .cells #[.int .i64 lo, .int .i64 hi] 25) rfl)
      have KA := Lib.hid (Kp.alloc No w1 (.cells #[.int .i64 lo, .int .i64 hi] 25))
      go_wp2_with fail
      obtain ⟨W1, hW1⟩ : ∃ W, w1.alloc (.cells #[.int .i64 lo, .int .i64 hi] 25) = W := ⟨_, rfl⟩
      rw [hW1] at HC KA ⊢
      have KW := Lib.hid (K0.out.tr KA.out)
      clear hW1
      go_loopw [12, 14] (fun s i wr => ∃ j : Nat, j ≤ L.length ∧ i = .int .i64 j ∧ s = .int .i64 (sumL (kHi K) (L.take j)) ∧ Kp No W1 wr) (fun _ i _ => L.length - (intOf i).toNat)
      case atStart => exact ⟨0, by omega, rfl, rfl, Kp.refl _ _⟩
      case round =>
        obtain ⟨j, hj, rfl, rfl, hkq⟩ := hrel
        have KQ := Lib.hid hkq
        clear hkq
        by_cases hjl : j < L.length
        · obtain ⟨t, ht⟩ : ∃ t, L[j]? = some t := ⟨_, List.getElem?_eq_getElem hjl⟩
          have htn := HT.out.lt (List.mem_of_getElem? ht)
          rw [HKL.out] at htn
          obtain ⟨x, hxt⟩ : ∃ x, K[t]? = some x := ⟨_, List.getElem?_eq_getElem (by have := HKL.out; omega)⟩
          obtain ⟨g, rfl⟩ := HA1.out (by omega)
          obtain ⟨b, o, rfl, _, hc⟩ := HX.out.2 t x hxt
          have kx : kHi K t = x.2 := by unfold kHi; rw [List.getD_eq_getElem?_getD, hxt]; rfl
          have xc := (KW.out.tr KQ.out).cell (hc 1 _ rfl) id
          have lc := (KA.out.tr KQ.out).cell (own_cell OV.out (j := j) (u := natV t) (by rw [List.getElem?_map, ht]; rfl)) id
          unfold natV at lc
          have hbj := HBD.out j
          have hbj1 := HBD.out (j + 1)
          have hsn : sumL (kHi K) (L.take (j + 1)) = sumL (kHi K) (L.take j) + x.2 := by
            rw [List.take_add_one, ht, sumL_append]
            simp [sumL, kx]
          have hlen : ((L.take j).length : Int) ≤ 40 := by
            rw [List.length_take]
            have := HLL.out
            have := HKL.out
            omega
          have hlen1 : ((L.take (j + 1)).length : Int) ≤ 40 := by
            rw [List.length_take]
            have := HLL.out
            have := HKL.out
            omega
          have hwr : IntKind.i64.wrap (sumL (kHi K) (L.take j) + x.2) = sumL (kHi K) (L.take j) + x.2 := by
            rw [← hsn, IntKind.wrap_i64]
            omega
          have HSN := Lib.hid hsn
          have hasc : ∀ i u, i + 1 = j → L[i]? = some u → u < t := fun i u e hu => by
            have hp := List.pairwise_iff_getElem.1 HT.out.asc i j (by omega) hjl (by omega)
            rw [(List.getElem?_eq_some_iff.1 hu).2, (List.getElem?_eq_some_iff.1 ht).2] at hp
            exact hp
          have HAS := Lib.hid hasc
          generalize sumL (kHi K) (L.take j) = sj at *
          obtain ⟨x1, x2⟩ := x
          simp only at xc hwr HSN
          have ht0 : (0 : Int) ≤ (t : Int) := by omega
          have htn' : (t : Int) < (n : Int) := by omega
          have htt : ((t : Nat) : Int).toNat = t := by omega
          have hj0 : (0 : Int) ≤ (j : Int) := by omega
          have hjl' : (j : Int) < (L.length : Int) := by omega
          have hjt : ((j : Nat) : Int).toNat = j := by omega
          have d1 : decide ((t : Int) < 0) = false := decide_eq_false (by omega)
          have d2 : decide ((n : Int) ≤ (t : Int)) = false := decide_eq_false (by omega)
          have d2' : decide (n ≤ t) = false := decide_eq_false (by omega)
          have HLT := Lib.hid ht
          clear ht htn hxt hc kx hbj hbj1 hsn hlen hlen1 hasc
          by_cases hz : j = 0
          · subst hz
            go_wp2_with fail
            go_quiet (fail)
            have xc2 : (wr.drewN nq).cell? ⟨b, o + t * 2 + 1, none⟩ = some (.int .i64 x2) := xc
            have lc2 : (wr.drewN nq).cell? ⟨g, 0, none⟩ = some (.int .i64 t) := lc
            clear xc lc d1 d2 d2'
            generalize hwq : wr.drewN nq = wq at *
            have KQ2 : Hid (Kp No W1 wq) := Lib.hid (by rw [← hwq]; exact KQ.out.tr (Kp.drewN _ _ _))
            clear hwq
            go_wp2_with fail
            go_roundw
            case rel => exact ⟨0 + 1, by omega, by go_num, by rw [HSN.out], KQ2.out⟩
            case measure => simp [intOf]; omega
          · obtain ⟨i, rfl⟩ : ∃ i, j = i + 1 := ⟨j - 1, by omega⟩
            obtain ⟨u, hu⟩ : ∃ u, L[i]? = some u := ⟨_, List.getElem?_eq_getElem (by omega)⟩
            have hut := HAS.out i u rfl hu
            have lp := (KA.out.tr KQ.out).cell (own_cell OV.out (j := i) (u := natV u) (by rw [List.getElem?_map, hu]; rfl)) id
            unfold natV at lp
            have hi0 : (0 : Int) ≤ (i : Int) := by omega
            have hil : (i : Int) < (L.length : Int) := by omega
            have hj1 : (0 : Int) ≤ (i : Int) + 1 := by omega
            have hjl1 : (i : Int) + 1 < (L.length : Int) := by omega
            have hjt1 : ((i : Int) + 1).toNat = i + 1 := by omega
            have w0' : IntKind.i64.wrap (i : Int) = (i : Int) := by rw [IntKind.wrap_i64]; have := HLL.out; omega
            have d3 : decide ((0 : Int) < (i : Int) + 1) = true := decide_eq_true (by omega)
            have d4 : decide ((t : Int) ≤ (u : Int)) = false := decide_eq_false (by omega)
            have d4' : decide (t ≤ u) = false := decide_eq_false (by omega)
            have d3' : (0 : Int) < (i : Int) + 1 := by omega
            clear hu hut hz
            go_wp2_with fail
            go_quiet (fail)
            have xc2 : (wr.drewN nq).cell? ⟨b, o + t * 2 + 1, none⟩ = some (.int .i64 x2) := xc
            have lc2 : (wr.drewN nq).cell? ⟨g, (i + 1), none⟩ = some (.int .i64 t) := lc
            clear xc lc d1 d2 d2' d3 d4 d4' lp
            generalize hwq : wr.drewN nq = wq at *
            have KQ2 : Hid (Kp No W1 wq) := Lib.hid (by rw [← hwq]; exact KQ.out.tr (Kp.drewN _ _ _))
            clear hwq
            go_wp2_with fail
            go_roundw
            case rel => exact ⟨(i + 1) + 1, by omega, by go_num, by rw [HSN.out], KQ2.out⟩
            case measure => simp [intOf]; omega
        · have hjL : j = L.length := by omega
          have he : sumL (kHi K) (L.take j) = hi := by
            rw [List.take_of_length_le (by omega), HHI.out]
          rw [he]
          have hmin : min (m : Int) (n : Int) = (L.length : Int) := by
            have := HLL.out
            have := HKL.out
            omega
          have HS := Lib.hid (fun h : cn ≤ m => by have h1 := HGM.out h; rw [← HHI.out] at h1; exact h1)
          obtain ⟨e0, e1, _, _⟩ := two_cells (KQ.out.heap HC.out id)
          have KK := Lib.hid (KW.out.tr KQ.out)
          subst hjL
          clear he
          generalize L.length = q at *
          by_cases hc : m < cn
          · have hc' : decide (m < cn) = true := decide_eq_true hc
            clear hc
            go_wp2_with fail
            refine (AW.out _).mono ?_
            rintro e w2 ⟨rfl, k2⟩
            go_wp2_with fail
            go_ret
            exact ⟨rfl, KK.out.tr k2⟩
          · have hs := HS.out (by omega)
            have hc' : decide (m < cn) = false := decide_eq_false hc
            clear hc
            go_wp2_with fail
            refine (AW.out _).mono ?_
            rintro e w2 ⟨rfl, k2⟩
            go_wp2_with fail
            go_ret
            exact ⟨rfl, KK.out.tr k2⟩
set_option maxHeartbeats 1000000 in
theorem tmost_any (A M : Option Addr) (n ca mn cm : Nat) (K : List (Int × Int)) (bs : List Bool) (most : Int) (w : World) (hx : Rd ivC 2 w A n K) (hb : RdB w M mn bs) :
    Calls Try.prog 5 #[.slice A n ca, .int .i64 most, .slice M mn cm] w fun e w' => e = .returned (.bool true) ∧ Kp No w w' := by
  by_cases hf : 40 < n ∨ mn < n
  · exact tmost_far A M n ca mn cm most w hf
  · cases hbad : pkBad K most
    · have hm : 0 ≤ most ∧ most ≤ 128 ∧ K.any kyB = false := by
        unfold pkBad at hbad
        simp only [Bool.or_eq_false_iff, decide_eq_false_iff_not] at hbad
        exact ⟨by omega, by omega, hbad.2⟩
      obtain ⟨m, rfl⟩ : ∃ m : Nat, most = (m : Nat) := ⟨most.toNat, by omega⟩
      exact tmost_ok A M n ca mn cm m K bs w hx hb (by omega) (by omega) (by omega) hm.2.2 (peak_ok A n ca m K w hx (by omega) hbad)
    · exact tmost_err A M n ca mn cm most 2 w (by omega) (by omega) (by omega) (peak_bad A n ca K most w hx (by omega) hbad)
end Go.Proofs.Ytlieijnhaolnhaa
