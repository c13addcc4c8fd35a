/- Chapter 13: law 5 (DemandPeaks): the walk. -/
import Derived.Test.YtlieijnhaolnhaaGreatXRpe
import Derived.Test.YtlieijnhaolnhaaGreatXAwk
namespace Go.Proofs.YtlieijnhaolnhaaGreat
open Go.RowKit Go.Kq

/-- A slice value that reads as integers. -/
def RdS (w : World) (v : Value) (xs : List Int) : Prop := ∃ A n c, v = .slice A n c ∧ RdI .i64 w A n xs ∧ n ≤ 1000
theorem RdS.no {w w' : World} {v : Value} {xs : List Int} (h : RdS w v xs) (hk : Kp No w w') : RdS w' v xs := by
  obtain ⟨A, n, c, h1, h2, h3⟩ := h
  exact ⟨A, n, c, h1, h2.no hk, h3⟩
theorem RdS.nil (w : World) : RdS w (.slice none 0 0) [] := ⟨none, 0, 0, rfl, RdI.nil w none, by omega⟩
theorem RdS.of_own {w : World} {base : Nat} {v : Value} {L : List Nat} (h : w.ownsRow base 3 1 v L.length (L.map natV)) (hl : L.length ≤ 1000) : RdS w v (L.map fun i : Nat => (i : Int)) := by
  obtain ⟨a, c, rfl, _, _, _⟩ := own_form h
  have e : L.map natV = (L.map fun i : Nat => (i : Int)).map (Value.int .i64) := by rw [List.map_map]; rfl
  rw [e] at h
  exact ⟨a, L.length, c, rfl, RdI.of_own h, hl⟩
def PkR (x1 x2 E : Int) (xs : List Int) (w : World) (e : Ending) (w' : World) : Prop := ∃ v, e = .returned (.tuple #[.agg #[.int .i64 x1, .int .i64 x2], v, .int .i64 E]) ∧ RdS w' v xs ∧ Kp No w w'
set_option maxHeartbeats 1000000 in
set_option maxRecDepth 100000 in
theorem tpeaks_tail (A : Option Addr) (n ca : Nat) (most x1 x2 E : Int) (xs : List Int) (w : World) (hn : n ≤ 140)
    (PK : ∀ w0, Kp No w w0 → Calls Tryz.prog 19 #[.slice A n ca, .int .i64 most] w0 (PkR x1 x2 E xs w0))
    (RP : ∀ w0, Kp No w w0 → Calls Tryz.prog 20 #[.slice A n ca, .int .i64 most] w0 (PkR x1 x2 E xs w0)) :
    Calls Tryz.prog 5 #[.slice A n ca, .int .i64 most] w fun e w' => e = .returned (.bool true) ∧ Kp No w w' := by
  have AW := Lib.hid awake_any
  have PK := Lib.hid PK
  have RP := Lib.hid RP
  have SI := Lib.hid (fun (w0 : World) (u v : Value) (hu : RdS w0 u xs) (hv : RdS w0 v xs) => show Calls Tryz.prog 21 #[u, v] w0 fun e w' => e = .returned (.bool true) ∧ Kp No w0 w' by
    obtain ⟨A1, m1, c1, rfl, h1, h2⟩ := hu
    obtain ⟨A2, m2, c2, rfl, h3, h4⟩ := hv
    have := sameI_any A1 A2 m1 m2 c1 c2 xs xs w0 h1 h3 (by omega)
    simpa using this)
  have h1 : (n : Int) ≤ 140 := by omega
  go_enter Tryz.func5, Tryz.ntmps5
  go_wp2_with fail
  refine (PK.out w (Kp.refl _ _)).mono ?_
  rintro _ w1 ⟨u, rfl, hu, k1⟩
  have HU := Lib.hid hu
  have K1 := Lib.hid k1
  clear hu k1 PK
  obtain ⟨A1, m1, c1, rfl, _, _⟩ := HU.out
  go_wp2_with fail
  have KA := Lib.hid (K1.out.tr (Kp.alloc No w1 (.cells #[.int .i64 x1, .int .i64 x2] 25)))
  have HB := Lib.hid (heap_alloc_new w1 (.cells #[.int .i64 x1, .int .i64 x2] 25))
  have HU2 := Lib.hid (HU.out.no (Kp.alloc No w1 (.cells #[.int .i64 x1, .int .i64 x2] 25)))
  refine (RP.out _ KA.out).mono ?_
  rintro _ w2 ⟨v, rfl, hv, k2⟩
  have HV := Lib.hid (hv.no (Kp.alloc No w2 (.cells #[.int .i64 x1, .int .i64 x2] 25)))
  have HU3 := Lib.hid ((HU2.out.no k2).no (Kp.alloc No w2 (.cells #[.int .i64 x1, .int .i64 x2] 25)))
  have K2 := Lib.hid ((KA.out.tr k2).tr (Kp.alloc No w2 (.cells #[.int .i64 x1, .int .i64 x2] 25)))
  obtain ⟨A2, m2, c2, rfl, _, _⟩ := hv
  obtain ⟨a0, a1, _, _⟩ := two_cells (k2.heap HB.out id)
  have hsz : w1.heap.size < w2.heap.size := (Array.getElem?_eq_some_iff.1 (k2.heap HB.out id)).1
  clear k2 RP HU HU2 KA K1
  go_wp2_with fail
  refine (SI.out _ _ _ HU3.out HV.out).mono ?_
  rintro _ w3 ⟨rfl, k3⟩
  have K3 := Lib.hid (K2.out.tr k3)
  clear k3 a0 a1
  go_wp2_with fail
  refine (AW.out _).mono ?_
  rintro _ w4 ⟨rfl, k4⟩
  have K4 := Lib.hid (K3.out.tr k4)
  go_wp2_with fail
  go_ret
  exact ⟨rfl, K4.out⟩
set_option maxHeartbeats 1000000 in
theorem tpeaks_far (A : Option Addr) (n ca : Nat) (most : Int) (w : World) (hn : 140 < n) :
    Calls Tryz.prog 5 #[.slice A n ca, .int .i64 most] w fun e w' => e = .returned (.bool true) ∧ Kp No w w' := by
  have AW := Lib.hid awake_any
  have h1 : (140 : Int) < (n : Int) := by omega
  go_enter Tryz.func5, Tryz.ntmps5
  go_wp2_with fail
  refine (AW.out _).mono ?_
  rintro _ w2 ⟨rfl, k2⟩
  go_wp2_with fail
  go_ret
  exact ⟨rfl, k2⟩
theorem refL_len (K : List (Int × Int)) (m k : Nat) : (refL K m k).length ≤ k := by
  unfold refL
  have := List.length_filter_le (fun i => decide ((List.range K.length).countP (fun j => bef K j i) < m)) (List.range k)
  simpa using this
theorem tpeaks_any (A : Option Addr) (n ca : Nat) (K : List (Int × Int)) (most : Int) (w : World) (hx : Rd ivC 2 w A n K) :
    Calls Tryz.prog 5 #[.slice A n ca, .int .i64 most] w fun e w' => e = .returned (.bool true) ∧ Kp No w w' := by
  have hl := hx.1
  by_cases h1 : 140 < n
  · exact tpeaks_far A n ca most w h1
  by_cases h2 : 128 < n
  · refine tpeaks_tail A n ca most 0 0 3 [] w (by omega) (fun w0 _ => (peak_long A n ca most w0 h2).mono ?_) (fun w0 _ => (rpeak_long A n ca most w0 h2).mono ?_)
    all_goals
      rintro e w' ⟨rfl, hk⟩
      exact ⟨_, rfl, RdS.nil _, hk⟩
  by_cases h3 : most < 0 ∨ 128 < most
  · have hb : pkBad K most = true := by
      unfold pkBad
      simp only [Bool.or_eq_true, decide_eq_true_eq]
      omega
    refine tpeaks_tail A n ca most 0 0 2 [] w (by omega) (fun w0 hk0 => (peak_bad A n ca K most w0 (hx.no hk0) (by omega) hb).mono ?_) (fun w0 _ => (rpeak_most A n ca most w0 (by omega) h3).mono ?_)
    all_goals
      rintro e w' ⟨rfl, hk⟩
      exact ⟨_, rfl, RdS.nil _, hk⟩
  obtain ⟨m, rfl⟩ : ∃ m : Nat, most = (m : Nat) := ⟨most.toNat, by omega⟩
  cases hk : K.any kyB
  · have hb : pkBad K (m : Nat) = false := by
      unfold pkBad
      simp only [Bool.or_eq_false_iff, decide_eq_false_iff_not]
      exact ⟨by omega, hk⟩
    refine tpeaks_tail A n ca m (pkV K (refL K m n)).1 (pkV K (refL K m n)).2.1 (pkV K (refL K m n)).2.2 (if (pkV K (refL K m n)).2.2 = 0 then (refL K m n).map (fun i : Nat => (i : Int)) else []) w (by omega) (fun w0 hk0 => (peak_ok A n ca m K w0 (hx.no hk0) (by omega) hb).mono ?_) (fun w0 hk0 => (rpeak_ok A n ca m K w0 (hx.no hk0) (by omega) (by omega)).mono ?_)
    · rintro e w' ⟨L, v, hT, rfl, h4, h5, h6⟩
      have := top_ref hT
      rw [hl] at this
      subst this
      refine ⟨v, rfl, ?_, h4⟩
      split
      · exact RdS.of_own (h5 (by assumption)) (Nat.le_trans (refL_len _ _ _) (by omega))
      · rw [h6 (by assumption)]
        exact RdS.nil _
    · rintro e w' ⟨h4, h5 | ⟨_, v, rfl, h5, h6⟩⟩
      · rw [hk] at h5
        cases h5.1
      · refine ⟨v, rfl, ?_, h4⟩
        split
        · exact RdS.of_own (h5 (by assumption)) (Nat.le_trans (refL_len _ _ _) (by omega))
        · rw [h6 (by assumption)]
          exact RdS.nil _
  · have hb : pkBad K (m : Nat) = true := by
      unfold pkBad
      rw [hk]
      simp
    refine tpeaks_tail A n ca m 0 0 2 [] w (by omega) (fun w0 hk0 => (peak_bad A n ca K m w0 (hx.no hk0) (by omega) hb).mono ?_) (fun w0 hk0 => (rpeak_ok A n ca m K w0 (hx.no hk0) (by omega) (by omega)).mono ?_)
    · rintro e w' ⟨rfl, h4⟩
      exact ⟨_, rfl, RdS.nil _, h4⟩
    · rintro e w' ⟨h4, h5 | h5⟩
      · obtain ⟨_, rfl⟩ := h5
        exact ⟨_, rfl, RdS.nil _, h4⟩
      · rw [hk] at h5
        cases h5.1
end Go.Proofs.YtlieijnhaolnhaaGreat
