/- Chapter 09: large, Least. · Chapter 09: what the reference's Scale gives is what the program's gives: plain. -/
import Derived.Test.YtamjhpdgclbfgaaGreatXLibBitM
import Derived.Test.YtamjhpdgclbfgaaGreatXNuc
import Derived.Test.YtamjhpdgclbfgaaGreatXLibQuoFM
import Derived.Test.YtamjhpdgclbfgaaGreatXRfAM
namespace Go.Proofs.YtamjhpdgclbfgaaGreat
open Go.RowKit Go.Kq

def bigC (P : Pt) (c : Ct) : Bool := decide (P.w < c.w) || decide (P.h < c.h)
set_option maxHeartbeats 2000000 in
theorem bigC_any (P : Pt) (g : Nat) (v3 : Value) (c : Ct) (w : World) (hb : w.heap[g]? = some (.cells #[.int .i64 P.w, .int .i64 P.h, .int .i64 P.k, v3] 95 (0, 0))) :
    Calls Tryz.prog 85 #[c.val, .pointer (some ⟨g, 0, none⟩)] w fun e w' => e = .returned (.bool (bigC P c)) ∧ Kp No w w' := by
  have hg : g < w.heap.size := (Array.getElem?_eq_some_iff.1 hb).1
  have b0 : w.cell? ⟨g, 0, none⟩ = some (.int .i64 P.w) := by rw [cell_of_row _ _ _ _ _ _ hb]; rfl
  have b1 : w.cell? ⟨g, 1, none⟩ = some (.int .i64 P.h) := by rw [cell_of_row _ _ _ _ _ _ hb]; rfl
  clear hb
  unfold bigC Ct.val
  have hk0 : Kp No w (w.alloc (.cells #[.int .i64 c.w, .int .i64 c.h] 25)) := Kp.alloc _ _ _
  go_enter Tryz.func85, Tryz.ntmps85
  by_cases h1 : P.w < c.w
  · go_wp2_with fail
    go_ret
    exact ⟨ret_bool (by simp [h1]), hk0⟩
  · go_wp2_with fail
    go_ret
    exact ⟨ret_bool (by simp; omega), hk0⟩
set_option maxHeartbeats 2000000 in
theorem large_any (P : Pt) (A : Option Addr) (n ca : Nat) (l : List Ct) (w : World) (hx : RdC w A n l) (hn : n ≤ 100000000) :
    Calls Tryz.prog 55 #[jobV P A n ca] w fun e w' => e = .returned (.bool (l.any (bigC P))) ∧ Kp No w w' := by
  have hk0 : Kp No w (w.alloc (.cells #[.int .i64 P.w, .int .i64 P.h, .int .i64 P.k, .slice A n ca] 95)) := Kp.alloc _ _ _
  have hbx : (w.alloc (.cells #[.int .i64 P.w, .int .i64 P.h, .int .i64 P.k, .slice A n ca] 95)).heap[w.heap.size]? = some (.cells #[.int .i64 P.w, .int .i64 P.h, .int .i64 P.k, .slice A n ca] 95 (0, 0)) := heap_alloc_new _ _
  have HC := Lib.hid (contains_large (cv := .pointer (some ⟨w.heap.size, 0, none⟩)) A n ca l (bigC P) _ (hx.no hk0) hn (fun v w' k => bigC_any P w.heap.size (.slice A n ca) v w' (k.heap hbx id)))
  unfold jobV
  generalize l.any (bigC P) = q at *
  clear hx hbx
  go_enter Tryz.func55, Tryz.ntmps55
  go_wp2_with fail
  with_reducible refine HC.out.mono ?_
  rintro e w1 ⟨rfl, k1⟩
  go_wp2_with fail
  go_ret
  exact ⟨rfl, hk0.tr k1⟩
def sumA (K : Int) (l : List Ct) : Int := (l.map fun c => (c.w + K) * (c.h + K)).sum
theorem sumA_snoc (K : Int) (l : List Ct) (c : Ct) : sumA K (l ++ [c]) = sumA K l + (c.w + K) * (c.h + K) := by simp [sumA]
def lstV (P : Pt) (l : List Ct) : Int × Int := if jchk P l 200 = 0 then ((sumA P.k l + (P.w + P.k) * (P.h + P.k) - 1) / ((P.w + P.k) * (P.h + P.k)), 0) else (0, jchk P l 200)
theorem outB_no' {n a b : Int} (h : outB n a b = false) : a ≤ n ∧ n ≤ b := by
  unfold outB at h
  simp at h
  omega
theorem badC_no {c : Ct} (h : badC c = false) : (1 ≤ c.w ∧ c.w ≤ 20000000) ∧ 1 ≤ c.h ∧ c.h ≤ 20000000 := by
  unfold badC at h
  rw [Bool.or_eq_false_iff] at h
  exact ⟨outB_no' h.1, outB_no' h.2⟩
structure JobOk (P : Pt) (l : List Ct) (m : Int) : Prop where
  len : (l.length : Int) ≤ m
  w : 1 ≤ P.w ∧ P.w ≤ 20000000
  h : 1 ≤ P.h ∧ P.h ≤ 20000000
  k : 0 ≤ P.k ∧ P.k ≤ 50000
  cut : ∀ c ∈ l, (1 ≤ c.w ∧ c.w ≤ 20000000) ∧ 1 ≤ c.h ∧ c.h ≤ 20000000
theorem job_ok {P : Pt} {l : List Ct} {m : Int} (h : jchk P l m = 0) : JobOk P l m := by
  unfold jchk at h
  by_cases h1 : m < (l.length : Int)
  · rw [if_pos h1] at h
    cases h
  rw [if_neg h1] at h
  cases hb : jbad P l with
  | true =>
    rw [hb, if_pos rfl] at h
    cases h
  | false =>
    unfold jbad at hb
    rw [Bool.or_eq_false_iff, Bool.or_eq_false_iff] at hb
    have b1 := badC_no hb.1.1
    exact ⟨by omega, b1.1, b1.2, outB_no' hb.1.2, fun c hc => badC_no (by
      have := hb.2
      rw [List.any_eq_false] at this
      simpa using this c hc)⟩
theorem area_bd {a b K : Int} (ha : 1 ≤ a ∧ a ≤ 20000000) (hb : 1 ≤ b ∧ b ≤ 20000000) (hK : 0 ≤ K ∧ K ≤ 50000) : 1 ≤ (a + K) * (b + K) ∧ (a + K) * (b + K) ≤ 402002500000000 := by
  constructor
  · have := Int.mul_le_mul (a := 1) (b := 1) (c := a + K) (d := b + K) (by omega) (by omega) (by omega) (by omega)
    omega
  · have := Int.mul_le_mul (a := a + K) (b := b + K) (c := 20050000) (d := 20050000) (by omega) (by omega) (by omega) (by omega)
    omega
theorem sumA_bd {K : Int} (hK : 0 ≤ K ∧ K ≤ 50000) : ∀ l : List Ct, (∀ c ∈ l, (1 ≤ c.w ∧ c.w ≤ 20000000) ∧ 1 ≤ c.h ∧ c.h ≤ 20000000) → 0 ≤ sumA K l ∧ sumA K l ≤ l.length * 402002500000000
  | [], _ => by simp [sumA]
  | c :: l, h => by
    have h1 := sumA_bd hK l fun d hd => h d (by simp [hd])
    have h2 := h c (by simp)
    have h3 := area_bd h2.1 h2.2 hK
    have e : sumA K (c :: l) = (c.w + K) * (c.h + K) + sumA K l := by simp [sumA]
    rw [e]
    simp only [List.length_cons]
    omega
set_option maxHeartbeats 4000000 in
theorem Least_any (P : Pt) (A : Option Addr) (n ca : Nat) (l : List Ct) (w : World) (hx : RdC w A n l) (hn : n ≤ 100000000) :
    Calls Tryz.prog 26 #[P.val, .slice A n ca] w fun e w' => e = .returned (.tuple #[.int .i64 (lstV P l).1, .int .i64 (lstV P l).2]) ∧ Kp No w w' := by
  have hk0 : Kp No w (w.alloc (.cells #[.int .i64 P.w, .int .i64 P.h, .int .i64 P.k] 49)) := Kp.alloc _ _ _
  have hbx : (w.alloc (.cells #[.int .i64 P.w, .int .i64 P.h, .int .i64 P.k] 49)).heap[w.heap.size]? = some (.cells #[.int .i64 P.w, .int .i64 P.h, .int .i64 P.k] 49 (0, 0)) := heap_alloc_new _ _
  have HC := Lib.hid (jcheck_any P A n ca l 200 _ (hx.no hk0) hn)
  have HV := Lib.hid (show lstV P l = if jchk P l 200 = 0 then ((sumA P.k l + (P.w + P.k) * (P.h + P.k) - 1) / ((P.w + P.k) * (P.h + P.k)), 0) else (0, jchk P l 200) from rfl)
  have HX := Lib.hid hx
  have HL := Lib.hid hx.1
  clear hx
  unfold Pt.val
  rw [HV.out]
  clear HV
  by_cases hc : jchk P l 200 = 0
  rotate_left
  · rw [if_neg hc]
    generalize jchk P l 200 = c at *
    clear HX HL hbx
    simp only [jobV] at HC
    go_enter Tryz.func26, Tryz.ntmps26
    go_wp2_with fail
    with_reducible refine HC.out.mono ?_
    rintro e w1 ⟨rfl, k1⟩
    go_wp2_with fail
    exact bodyPost_ret (v := .tuple #[.int .i64 0, .int .i64 c]) (by simp [results, Tryz.results26, go_sem]) rfl ⟨rfl, hk0.tr k1⟩
  have J := Lib.hid (job_ok hc)
  rw [if_pos hc]
  rw [hc] at HC
  simp only [jobV] at HC
  have ha := area_bd J.out.w J.out.h J.out.k
  have hb := sumA_bd J.out.k l J.out.cut
  have hl := J.out.len
  have hkk := J.out.k
  have hww := J.out.w
  have hhh := J.out.h
  have hn2 : n ≤ 200 := by have := HL.out; omega
  clear hc
  go_enter Tryz.func26, Tryz.ntmps26
  go_wp2_with fail
  with_reducible refine HC.out.mono ?_
  rintro e w1 ⟨rfl, k1⟩
  obtain ⟨gp, hgp⟩ : ∃ gp, gp = w.heap.size := ⟨_, rfl⟩
  rw [← hgp] at hbx ⊢
  have HB := Lib.hid (k1.heap hbx id)
  have HK := Lib.hid (hk0.tr k1)
  clear HC hbx hgp hk0 k1
  go_wp2_with fail
  go_loopw [7, 20] (fun v7 v20 wr => ∃ k : Nat, k ≤ n ∧ v20 = .int .i64 k ∧ v7 = .int .i64 (sumA P.k (l.take k)) ∧ Kp No w1 wr) (fun _ v20 _ => n - (intOf v20).toNat)
  case atStart => exact ⟨0, by omega, rfl, rfl, Kp.refl _ _⟩
  case round =>
    obtain ⟨k, hk, rfl, rfl, hkp⟩ := hrel
    have HB1 := Lib.hid (hkp.heap HB.out id)
    have b0 : wr.cell? ⟨gp, 0, none⟩ = some (.int .i64 P.w) := by rw [cell_of_row _ _ _ _ _ _ HB1.out]; rfl
    have b1 : wr.cell? ⟨gp, 1, none⟩ = some (.int .i64 P.h) := by rw [cell_of_row _ _ _ _ _ _ HB1.out]; rfl
    have b2 : wr.cell? ⟨gp, 2, none⟩ = some (.int .i64 P.k) := by rw [cell_of_row _ _ _ _ _ _ HB1.out]; rfl
    have hg : gp < wr.heap.size := (Array.getElem?_eq_some_iff.1 HB1.out).1
    have HK1 := Lib.hid (HK.out.tr hkp)
    have HKP := Lib.hid hkp
    clear hkp
    by_cases hlt : k < n
    · obtain ⟨c, hv⟩ : ∃ c, l[k]? = some c := ⟨_, List.getElem?_eq_getElem (by rw [HL.out]; exact hlt)⟩
      have hcb := J.out.cut c (List.mem_of_getElem? hv)
      obtain ⟨b, o, rfl, hb', hc'⟩ := (HX.out.no HK1.out).2 k c hv
      have c0 := hc' 0 _ rfl
      have c1 := hc' 1 _ rfl
      simp only [Nat.add_zero] at c0
      have HS := Lib.hid (show sumA P.k (l.take (k + 1)) = sumA P.k (l.take k) + (c.w + P.k) * (c.h + P.k) by rw [List.take_add_one, hv]; exact sumA_snoc _ _ _)
      have h1 := sumA_bd J.out.k (l.take k) fun d hd => J.out.cut d (List.mem_of_mem_take hd)
      have h2 := area_bd hcb.1 hcb.2 J.out.k
      have h3 : (l.take k).length = k := by rw [List.length_take, HL.out]; omega
      rw [h3] at h1
      have h5 : (k : Int) ≤ 200 := by omega
      clear hv hc'
      go_wp2_with fail
      go_roundw
      case rel => exact ⟨k + 1, by omega, by go_num, by rw [HS.out], HKP.out.tr (Kp.alloc _ _ _)⟩
      case measure => simp [intOf]; omega
    · obtain rfl : k = n := by omega
      have HT := Lib.hid (show l.take k = l by rw [List.take_of_length_le (by rw [HL.out]; omega)])
      rw [HT.out]
      go_wp2_with fail
      exact bodyPost_ret (v := .tuple #[.int .i64 ((sumA P.k l + (P.w + P.k) * (P.h + P.k) - 1) / ((P.w + P.k) * (P.h + P.k))), .int .i64 0]) (by simp [results, Tryz.results26, go_sem]) rfl ⟨rfl, HK1.out⟩
end Go.Proofs.YtamjhpdgclbfgaaGreat

namespace Go.Proofs.YtamjhpdgclbfgaaGreat
open Go.RowKit Go.Kq

theorem two_span {x y : Rat} (h : x ≤ y) : spanL [x, y] = spanE x.floor y.ceil :=
  spanL_of (by simp) (fun z hz => by
    rcases List.mem_cons.1 hz with rfl | hz
    · exact Rat.le_refl
    · rw [List.mem_singleton.1 hz]; exact h) (by simp) (fun z hz => by
    rcases List.mem_cons.1 hz with rfl | hz
    · exact h
    · rw [List.mem_singleton.1 hz]; exact Rat.le_refl)
theorem span_one {a num den : Int} (hd : 0 < den) : spanL [(a : Rat) * ((num : Rat) / (den : Rat)), (a : Rat) * ((num : Rat) / (den : Rat))] = spanE (rnd false (a * num) den) (rnd true (a * num) den) := by
  rw [two_span Rat.le_refl, floor_rnd hd (scale_mul a num den hd), ceil_rnd hd (scale_mul a num den hd)]
theorem in_fits (z : Int) : in62 z = fits z := by
  unfold in62 fits M62
  by_cases h1 : -4611686018427387904 ≤ z <;> by_cases h2 : z ≤ 4611686018427387904 <;> simp [h1, h2]
theorem span_eq {a num den : Int} (hd : 0 < den) : spanL [(a : Rat) * ((num : Rat) / (den : Rat)), (a : Rat) * ((num : Rat) / (den : Rat))] = spanV den (a * num) [a * num] := by
  rw [span_one hd]
  unfold spanE spanV
  have e1 : minL (a * num) [a * num] = a * num := by simp [minL]
  have e2 : maxL (a * num) [a * num] = a * num := by simp [maxL]
  rw [e1, e2, in_fits, in_fits]
/-- The areas of cuts, added. -/
def metA (l : List Ct) : Int := (l.map fun c => c.w * c.h).sum
def metV (l : List Ct) : Int × Int := if cutE l 200 = 0 then (metA l, 0) else (0, cutE l 200)
theorem metA_snoc {l : List Ct} {k : Nat} {c : Ct} (h : l[k]? = some c) : metA (l.take (k + 1)) = metA (l.take k) + c.w * c.h := by
  rw [List.take_add_one, h]
  simp [metA]
theorem metA_bd : ∀ {l : List Ct}, (∀ c ∈ l, (1 ≤ c.w ∧ c.w ≤ 20000000) ∧ 1 ≤ c.h ∧ c.h ≤ 20000000) → 0 ≤ metA l ∧ metA l ≤ l.length * 400000000000000
  | [], _ => by simp [metA]
  | c :: l, h => by
    have h1 := metA_bd (l := l) fun d hd => h d (by simp [hd])
    have h2 := h c (by simp)
    have h3 := area_bd h2.1 h2.2 (K := 0) (by omega)
    have h4 : c.w * c.h ≤ 400000000000000 := by
      have := Int.mul_le_mul (a := c.w) (b := c.h) (c := 20000000) (d := 20000000) (by omega) (by omega) (by omega) (by omega)
      omega
    have e : metA (c :: l) = c.w * c.h + metA l := by simp [metA]
    simp only [Int.add_zero] at h3
    rw [e]
    simp only [List.length_cons]
    omega
theorem cut_good {l : List Ct} (h : cutE l 200 = 0) : l.length ≤ 200 ∧ ∀ c ∈ l, (1 ≤ c.w ∧ c.w ≤ 20000000) ∧ 1 ≤ c.h ∧ c.h ≤ 20000000 := by
  unfold cutE at h
  split at h
  · cases h
  rename_i hlen
  cases hb : l.any badC with
  | true =>
    rw [hb, if_pos rfl] at h
    cases h
  | false =>
    rw [List.any_eq_false] at hb
    exact ⟨by omega, fun c hc => badC_no (by simpa using hb c hc)⟩
end Go.Proofs.YtamjhpdgclbfgaaGreat
