/- Chapter 09: large, Least. · Boxes that a region makes and fills in whatever order: an invariant for wp_region_each. No program in sight. -/
import Derived.Test.YtamjhpdgclbfgaaXLibBitM
import Derived.Test.YtamjhpdgclbfgaaXLibReg
import Derived.Test.YtamjhpdgclbfgaaXLibRowM
namespace Go.Proofs.Ytamjhpdgclbfgaa
open Go.RowKit Go.Kq

def bigC (P : Pt) (c : Ct) : Bool := decide (P.w < c.w) || decide (P.h < c.h)
set_option maxHeartbeats 2000000 in
theorem bigC_any (P : Pt) (g : Nat) (v3 : Value) (c : Ct) (w : World) (hb : w.heap[g]? = some (.cells #[.int .i64 P.w, .int .i64 P.h, .int .i64 P.k, v3] 56 (0, 0))) :
    Calls Try.prog 56 #[c.val, .pointer (some ⟨g, 0, none⟩)] w fun e w' => e = .returned (.bool (bigC P c)) ∧ Kp No w w' := by
  have hg : g < w.heap.size := (Array.getElem?_eq_some_iff.1 hb).1
  have b0 : w.cell? ⟨g, 0, none⟩ = some (.int .i64 P.w) := by rw [cell_of_row _ _ _ _ _ _ hb]; rfl
  have b1 : w.cell? ⟨g, 1, none⟩ = some (.int .i64 P.h) := by rw [cell_of_row _ _ _ _ _ _ hb]; rfl
  clear hb
  unfold bigC Ct.val
  have hk0 : Kp No w (w.alloc (.cells #[.int .i64 c.w, .int .i64 c.h] 35)) := Kp.alloc _ _ _
  go_enter Try.func56, Try.ntmps56
  by_cases h1 : P.w < c.w
  · go_wp2_with fail
    go_ret
    exact ⟨ret_bool (by simp [h1]), hk0⟩
  · go_wp2_with fail
    go_ret
    exact ⟨ret_bool (by simp; omega), hk0⟩
set_option maxHeartbeats 2000000 in
theorem large_any (P : Pt) (A : Option Addr) (n ca : Nat) (l : List Ct) (w : World) (hx : RdC w A n l) (hn : n ≤ 100000000) :
    Calls Try.prog 27 #[jobV P A n ca] w fun e w' => e = .returned (.bool (l.any (bigC P))) ∧ Kp No w w' := by
  have hk0 : Kp No w (w.alloc (.cells #[.int .i64 P.w, .int .i64 P.h, .int .i64 P.k, .slice A n ca] 56)) := Kp.alloc _ _ _
  have hbx : (w.alloc (.cells #[.int .i64 P.w, .int .i64 P.h, .int .i64 P.k, .slice A n ca] 56)).heap[w.heap.size]? = some (.cells #[.int .i64 P.w, .int .i64 P.h, .int .i64 P.k, .slice A n ca] 56 (0, 0)) := heap_alloc_new _ _
  have HC := Lib.hid (contains_large (cv := .pointer (some ⟨w.heap.size, 0, none⟩)) A n ca l (bigC P) _ (hx.no hk0) hn (fun v w' k => bigC_any P w.heap.size (.slice A n ca) v w' (k.heap hbx id)))
  unfold jobV
  generalize l.any (bigC P) = q at *
  clear hx hbx
  go_enter Try.func27, Try.ntmps27
  go_wp2_with fail
  with_reducible refine HC.out.mono ?_
  rintro e w1 ⟨rfl, k1⟩
  go_wp2_with fail
  go_ret
  exact ⟨rfl, hk0.tr k1⟩
def sumA (K : Int) (l : List Ct) : Int := (l.map fun c => (c.w + K) * (c.h + K)).sum
theorem sumA_snoc (K : Int) (l : List Ct) (c : Ct) : sumA K (l ++ [c]) = sumA K l + (c.w + K) * (c.h + K) := by simp [sumA]
def lstV (P : Pt) (l : List Ct) : Int × Int := if jchk P l 200 = 0 then ((sumA P.k l + (P.w + P.k) * (P.h + P.k) - 1) / ((P.w + P.k) * (P.h + P.k)), 0) else (0, jchk P l 200)
theorem outB_no' {n a b : Int} (h : outB n a b = false) : a ≤ n ∧ n ≤ b := by
  unfold outB at h
  simp at h
  omega
theorem badC_no {c : Ct} (h : badC c = false) : (1 ≤ c.w ∧ c.w ≤ 20000000) ∧ 1 ≤ c.h ∧ c.h ≤ 20000000 := by
  unfold badC at h
  rw [Bool.or_eq_false_iff] at h
  exact ⟨outB_no' h.1, outB_no' h.2⟩
structure JobOk (P : Pt) (l : List Ct) (m : Int) : Prop where
  len : (l.length : Int) ≤ m
  w : 1 ≤ P.w ∧ P.w ≤ 20000000
  h : 1 ≤ P.h ∧ P.h ≤ 20000000
  k : 0 ≤ P.k ∧ P.k ≤ 50000
  cut : ∀ c ∈ l, (1 ≤ c.w ∧ c.w ≤ 20000000) ∧ 1 ≤ c.h ∧ c.h ≤ 20000000
theorem job_ok {P : Pt} {l : List Ct} {m : Int} (h : jchk P l m = 0) : JobOk P l m := by
  unfold jchk at h
  by_cases h1 : m < (l.length : Int)
  · rw [if_pos h1] at h
    cases h
  rw [if_neg h1] at h
  cases hb : jbad P l with
  | true =>
    rw [hb, if_pos rfl] at h
    cases h
  | false =>
    unfold jbad at hb
    rw [Bool.or_eq_false_iff, Bool.or_eq_false_iff] at hb
    have b1 := badC_no hb.1.1
    exact ⟨by omega, b1.1, b1.2, outB_no' hb.1.2, fun c hc => badC_no (by
      have := hb.2
      rw [List.any_eq_false] at this
      simpa using this c hc)⟩
theorem area_bd {a b K : Int} (ha : 1 ≤ a ∧ a ≤ 20000000) (hb : 1 ≤ b ∧ b ≤ 20000000) (hK : 0 ≤ K ∧ K ≤ 50000) : 1 ≤ (a + K) * (b + K) ∧ (a + K) * (b + K) ≤ 402002500000000 := by
  constructor
  · have := Int.mul_le_mul (a := 1) (b := 1) (c := a + K) (d := b + K) (by omega) (by omega) (by omega) (by omega)
    omega
  · have := Int.mul_le_mul (a := a + K) (b := b + K) (c := 20050000) (d := 20050000) (by omega) (by omega) (by omega) (by omega)
    omega
theorem sumA_bd {K : Int} (hK : 0 ≤ K ∧ K ≤ 50000) : ∀ l : List Ct, (∀ c ∈ l, (1 ≤ c.w ∧ c.w ≤ 20000000) ∧ 1 ≤ c.h ∧ c.h ≤ 20000000) → 0 ≤ sumA K l ∧ sumA K l ≤ l.length * 402002500000000
  | [], _ => by simp [sumA]
  | c :: l, h => by
    have h1 := sumA_bd hK l fun d hd => h d (by simp [hd])
    have h2 := h c (by simp)
    have h3 := area_bd h2.1 h2.2 hK
    have e : sumA K (c :: l) = (c.w + K) * (c.h + K) + sumA K l := by simp [sumA]
    rw [e]
    simp only [List.length_cons]
    omega
set_option maxHeartbeats 4000000 in
theorem Least_any (P : Pt) (A : Option Addr) (n ca : Nat) (l : List Ct) (w : World) (hx : RdC w A n l) (hn : n ≤ 100000000) :
    Calls Try.prog 17 #[P.val, .slice A n ca] w fun e w' => e = .returned (.tuple #[.int .i64 (lstV P l).1, .int .i64 (lstV P l).2]) ∧ Kp No w w' := by
  have hk0 : Kp No w (w.alloc (.cells #[.int .i64 P.w, .int .i64 P.h, .int .i64 P.k] 23)) := Kp.alloc _ _ _
  have hbx : (w.alloc (.cells #[.int .i64 P.w, .int .i64 P.h, .int .i64 P.k] 23)).heap[w.heap.size]? = some (.cells #[.int .i64 P.w, .int .i64 P.h, .int .i64 P.k] 23 (0, 0)) := heap_alloc_new _ _
  have HC := Lib.hid (jcheck_any P A n ca l 200 _ (hx.no hk0) hn)
  have HV := Lib.hid (show lstV P l = if jchk P l 200 = 0 then ((sumA P.k l + (P.w + P.k) * (P.h + P.k) - 1) / ((P.w + P.k) * (P.h + P.k)), 0) else (0, jchk P l 200) from rfl)
  have HX := Lib.hid hx
  have HL := Lib.hid hx.1
  clear hx
  unfold Pt.val
  rw [HV.out]
  clear HV
  by_cases hc : jchk P l 200 = 0
  rotate_left
  · rw [if_neg hc]
    generalize jchk P l 200 = c at *
    clear HX HL hbx
    simp only [jobV] at HC
    go_enter Try.func17, Try.ntmps17
    go_wp2_with fail
    with_reducible refine HC.out.mono ?_
    rintro e w1 ⟨rfl, k1⟩
    go_wp2_with fail
    exact bodyPost_ret (v := .tuple #[.int .i64 0, .int .i64 c]) (by simp [results, Try.results17, go_sem]) rfl ⟨rfl, hk0.tr k1⟩
  have J := Lib.hid (job_ok hc)
  rw [if_pos hc]
  rw [hc] at HC
  simp only [jobV] at HC
  have ha := area_bd J.out.w J.out.h J.out.k
  have hb := sumA_bd J.out.k l J.out.cut
  have hl := J.out.len
  have hkk := J.out.k
  have hww := J.out.w
  have hhh := J.out.h
  have hn2 : n ≤ 200 := by have := HL.out; omega
  clear hc
  go_enter Try.func17, Try.ntmps17
  go_wp2_with fail
  with_reducible refine HC.out.mono ?_
  rintro e w1 ⟨rfl, k1⟩
  obtain ⟨gp, hgp⟩ : ∃ gp, gp = w.heap.size := ⟨_, rfl⟩
  rw [← hgp] at hbx ⊢
  have HB := Lib.hid (k1.heap hbx id)
  have HK := Lib.hid (hk0.tr k1)
  clear HC hbx hgp hk0 k1
  go_wp2_with fail
  go_loopw [7, 20] (fun v7 v20 wr => ∃ k : Nat, k ≤ n ∧ v20 = .int .i64 k ∧ v7 = .int .i64 (sumA P.k (l.take k)) ∧ Kp No w1 wr) (fun _ v20 _ => n - (intOf v20).toNat)
  case atStart => exact ⟨0, by omega, rfl, rfl, Kp.refl _ _⟩
  case round =>
    obtain ⟨k, hk, rfl, rfl, hkp⟩ := hrel
    have HB1 := Lib.hid (hkp.heap HB.out id)
    have b0 : wr.cell? ⟨gp, 0, none⟩ = some (.int .i64 P.w) := by rw [cell_of_row _ _ _ _ _ _ HB1.out]; rfl
    have b1 : wr.cell? ⟨gp, 1, none⟩ = some (.int .i64 P.h) := by rw [cell_of_row _ _ _ _ _ _ HB1.out]; rfl
    have b2 : wr.cell? ⟨gp, 2, none⟩ = some (.int .i64 P.k) := by rw [cell_of_row _ _ _ _ _ _ HB1.out]; rfl
    have hg : gp < wr.heap.size := (Array.getElem?_eq_some_iff.1 HB1.out).1
    have HK1 := Lib.hid (HK.out.tr hkp)
    have HKP := Lib.hid hkp
    clear hkp
    by_cases hlt : k < n
    · obtain ⟨c, hv⟩ : ∃ c, l[k]? = some c := ⟨_, List.getElem?_eq_getElem (by rw [HL.out]; exact hlt)⟩
      have hcb := J.out.cut c (List.mem_of_getElem? hv)
      obtain ⟨b, o, rfl, hb', hc'⟩ := (HX.out.no HK1.out).2 k c hv
      have c0 := hc' 0 _ rfl
      have c1 := hc' 1 _ rfl
      simp only [Nat.add_zero] at c0
      have HS := Lib.hid (show sumA P.k (l.take (k + 1)) = sumA P.k (l.take k) + (c.w + P.k) * (c.h + P.k) by rw [List.take_add_one, hv]; exact sumA_snoc _ _ _)
      have h1 := sumA_bd J.out.k (l.take k) fun d hd => J.out.cut d (List.mem_of_mem_take hd)
      have h2 := area_bd hcb.1 hcb.2 J.out.k
      have h3 : (l.take k).length = k := by rw [List.length_take, HL.out]; omega
      rw [h3] at h1
      have h5 : (k : Int) ≤ 200 := by omega
      clear hv hc'
      go_wp2_with fail
      go_roundw
      case rel => exact ⟨k + 1, by omega, by go_num, by rw [HS.out], HKP.out.tr (Kp.alloc _ _ _)⟩
      case measure => simp [intOf]; omega
    · obtain rfl : k = n := by omega
      have HT := Lib.hid (show l.take k = l by rw [List.take_of_length_le (by rw [HL.out]; omega)])
      rw [HT.out]
      go_wp2_with fail
      exact bodyPost_ret (v := .tuple #[.int .i64 ((sumA P.k l + (P.w + P.k) * (P.h + P.k) - 1) / ((P.w + P.k) * (P.h + P.k))), .int .i64 0]) (by simp [results, Try.results17, go_sem]) rfl ⟨rfl, HK1.out⟩
end Go.Proofs.Ytamjhpdgclbfgaa

namespace Go.Kq
open Go.RowKit

/-- A box: operation a makes it, with the cells zero; operation s fills it: then it has the cells full. v: what operation a gives. -/
structure Bx where
  a : Nat
  s : Nat
  t : TypeId
  zero : Array Value
  full : Array Value
  v : Nat → Value
def ptrV (g : Nat) : Value := .pointer (some ⟨g, 0, none⟩)
def slcV (n : Nat) (g : Nat) : Value := .slice (some ⟨g, 0, none⟩) n n
theorem ptrV_inj {a b : Nat} (h : ptrV a = ptrV b) : a = b := by
  unfold ptrV at h
  injection h with h
  injection h with h
  injection h
theorem slcV_inj (n : Nat) {a b : Nat} (h : slcV n a = slcV n b) : a = b := by
  unfold slcV at h
  injection h with h
  injection h with h
  injection h
/-- The numbers of operations are apart. -/
def apartL (L : List Bx) : Bool := decide ((L.map (·.a) ++ L.map (·.s)).Nodup)
structure BxW (w1 : World) (L : List Bx) (r : Nat → Option Value) (w : World) : Prop where
  kp : Kp No w1 w
  box : ∀ x ∈ L, ∀ u, r x.a = some u → ∃ g, u = x.v g ∧ w1.heap.size ≤ g ∧ g < w.heap.size ∧ w.heap[g]? = some (.cells (if (r x.s).isSome then x.full else x.zero) x.t (0, 0))
  ne : ∀ x ∈ L, ∀ y ∈ L, x.a ≠ y.a → ∀ g h, r x.a = some (x.v g) → r y.a = some (y.v h) → g ≠ h
  had : ∀ x ∈ L, r x.s ≠ none → r x.a ≠ none
section
variable {w1 w w' : World} {L : List Bx} {r : Nat → Option Value}
theorem BxW.start (w1 : World) (L : List Bx) : BxW w1 L (fun _ => none) w1.drew :=
  ⟨Kp.drew _ _, fun _ _ _ h => (by cases h), fun _ _ _ _ _ _ _ h => (by cases h), fun _ _ h => absurd rfl h⟩
def freeOf (L : List Bx) (i : Nat) : Bool := L.all fun x => decide (x.a ≠ i) && decide (x.s ≠ i)
theorem freeOf_of {i : Nat} (h : freeOf L i = true) {x : Bx} (hx : x ∈ L) : x.a ≠ i ∧ x.s ≠ i := by
  have := List.all_eq_true.1 h x hx
  simpa using this
theorem BxW.upd {i : Nat} (h : BxW w1 L r w) (hf : freeOf L i = true) (v : Value) : BxW w1 L (Kq.upd r i v) w := by
  have e1 : ∀ x ∈ L, Kq.upd r i v x.a = r x.a := fun x hx => upd_ne _ _ (freeOf_of hf hx).1
  have e2 : ∀ x ∈ L, Kq.upd r i v x.s = r x.s := fun x hx => upd_ne _ _ (freeOf_of hf hx).2
  refine ⟨h.kp, fun x hx u hu => ?_, fun x hx y hy hne g k h1 h2 => ?_, fun x hx hs => ?_⟩
  · rw [e1 x hx] at hu
    rw [e2 x hx]
    exact h.box x hx u hu
  · rw [e1 x hx] at h1
    rw [e1 y hy] at h2
    exact h.ne x hx y hy hne g k h1 h2
  · rw [e2 x hx] at hs
    rw [e1 x hx]
    exact h.had x hx hs
theorem BxW.call (h : BxW w1 L r w) (k : Kp No w w') : BxW w1 L r w' :=
  ⟨h.kp.tr k, fun x hx u hu => by
    obtain ⟨g, h1, h2, h3, h4⟩ := h.box x hx u hu
    exact ⟨g, h1, h2, Nat.lt_of_lt_of_le h3 k.size, k.heap h4 id⟩, h.ne, h.had⟩
theorem nodup_idx (hL : apartL L = true) {x y : Bx} (hx : x ∈ L) (hy : y ∈ L) : x.a ≠ y.s ∧ (x.s = y.s → x.a = y.a) := by
  unfold apartL at hL
  rw [decide_eq_true_eq, List.nodup_append] at hL
  obtain ⟨_, h2, h3⟩ := hL
  refine ⟨h3 _ (List.mem_map_of_mem hx) _ (List.mem_map_of_mem hy), fun e => ?_⟩
  obtain ⟨i, hi, hxi⟩ := List.mem_iff_getElem.1 hx
  obtain ⟨j, hj, hyj⟩ := List.mem_iff_getElem.1 hy
  have hij : i = j := by
    have hp := List.pairwise_iff_getElem.1 h2
    rcases Nat.lt_trichotomy i j with h | h | h
    · have := hp i j (by simpa using hi) (by simpa using hj) h
      simp [hxi, hyj, e] at this
    · exact h
    · have := hp j i (by simpa using hj) (by simpa using hi) h
      simp [hxi, hyj, e] at this
  subst hij
  rw [← hxi, ← hyj]
theorem BxW.alloc (h : BxW w1 L r w) (hL : apartL L = true) {x : Bx} (hx : x ∈ L) (hr : r x.a = none) (hv : ∀ y ∈ L, ∀ {p q}, y.v p = y.v q → p = q) (hsame : ∀ y ∈ L, y.a = x.a → y = x) : BxW w1 L (Kq.upd r x.a (x.v w.heap.size)) (w.alloc (.cells x.zero x.t)) := by
  have hs : r x.s = none := by
    cases hs : r x.s with
    | none => rfl
    | some v => exact absurd hr (h.had x hx (by rw [hs]; simp))
  have es : ∀ y ∈ L, Kq.upd r x.a (x.v w.heap.size) y.s = r y.s := fun y hy => upd_ne _ _ (fun e => (nodup_idx hL hx hy).1 e.symm)
  have hnew : (w.alloc (.cells x.zero x.t)).heap[w.heap.size]? = some (.cells x.zero x.t (0, 0)) := heap_alloc_new w _
  refine ⟨h.kp.tr (Kp.alloc _ _ _), fun y hy u hu => ?_, fun y hy z hz hne g k h1 h2 => ?_, fun y hy hys => ?_⟩
  · rw [es y hy]
    by_cases e : y.a = x.a
    · obtain rfl := hsame y hy e
      rw [upd_same] at hu
      cases hu
      refine ⟨_, rfl, h.kp.size, by simp, ?_⟩
      rw [hs]
      exact hnew
    · rw [upd_ne _ _ e] at hu
      obtain ⟨g, q1, q2, q3, q4⟩ := h.box y hy u hu
      exact ⟨g, q1, q2, by simp; omega, (Kp.alloc No w _).heap q4 id⟩
  · by_cases e1 : y.a = x.a
    · obtain rfl := hsame y hy e1
      rw [upd_same] at h1
      rw [upd_ne _ _ (fun e => hne e.symm)] at h2
      obtain ⟨g', q1, _, q3, _⟩ := h.box z hz _ h2
      have e2 := hv y hy (Option.some.inj h1)
      have e3 := hv z hz q1
      omega
    · rw [upd_ne _ _ e1] at h1
      by_cases e2 : z.a = x.a
      · obtain rfl := hsame z hz e2
        rw [upd_same] at h2
        obtain ⟨g', q1, _, q3, _⟩ := h.box y hy _ h1
        have e3 := hv y hy q1
        have e4 := hv z hz (Option.some.inj h2)
        omega
      · rw [upd_ne _ _ e2] at h2
        exact h.ne y hy z hz hne g k h1 h2
  · rw [es y hy] at hys
    have := h.had y hy hys
    by_cases e : y.a = x.a
    · rw [e, upd_same]; simp
    · rw [upd_ne _ _ e]
      exact this
theorem BxW.store (h : BxW w1 L r w) (hL : apartL L = true) {x : Bx} (hx : x ∈ L) {g : Nat} (hr : r x.a = some (x.v g)) (hgl : w1.heap.size ≤ g) (_hv : ∀ y ∈ L, ∀ {p q}, y.v p = y.v q → p = q) (hsame : ∀ y ∈ L, y.a = x.a → y = x) (hk : Kp (One g) w w') (hg : w'.heap[g]? = some (.cells x.full x.t (0, 0))) (v : Value) :
    BxW w1 L (Kq.upd r x.s v) w' := by
  have ea : ∀ y ∈ L, Kq.upd r x.s v y.a = r y.a := fun y hy => upd_ne _ _ (nodup_idx hL hy hx).1
  refine ⟨h.kp.trans hk (fun k hk e => by unfold One at e; omega), fun y hy u hu => ?_, fun y hy z hz hne p q h1 h2 => ?_, fun y hy hys => ?_⟩
  · rw [ea y hy] at hu
    by_cases e : y.a = x.a
    · obtain rfl := hsame y hy e
      rw [hr] at hu
      cases hu
      refine ⟨g, rfl, hgl, (Array.getElem?_eq_some_iff.1 hg).1, ?_⟩
      rw [upd_same]
      exact hg
    · obtain ⟨g', q1, q2, q3, q4⟩ := h.box y hy u hu
      subst q1
      have hne := h.ne y hy x hx e g' g hu hr
      refine ⟨g', rfl, q2, Nat.lt_of_lt_of_le q3 hk.size, ?_⟩
      rw [upd_ne _ _ (fun e2 => e ((nodup_idx hL hy hx).2 e2))]
      exact hk.heap q4 (fun e => hne e)
  · rw [ea y hy] at h1
    rw [ea z hz] at h2
    exact h.ne y hy z hz hne p q h1 h2
  · rw [ea y hy]
    by_cases e : y.s = x.s
    · have := hsame y hy ((nodup_idx hL hy hx).2 e)
      subst this
      rw [hr]
      simp
    · rw [upd_ne _ _ e] at hys
      exact h.had y hy hys
/-- A filled box. -/
theorem BxW.filled (h : BxW w1 L r w) {x : Bx} (hx : x ∈ L) (hs : r x.s ≠ none) : ∃ g, r x.a = some (x.v g) ∧ w1.heap.size ≤ g ∧ g < w.heap.size ∧ w.heap[g]? = some (.cells x.full x.t (0, 0)) := by
  cases ha : r x.a with
  | none => exact absurd ha (h.had x hx hs)
  | some u =>
    obtain ⟨g, rfl, h2, h3, h4⟩ := h.box x hx u ha
    rw [if_pos (Option.isSome_iff_ne_none.2 hs)] at h4
    exact ⟨g, rfl, h2, h3, h4⟩
/-- A box that has not been filled. -/
theorem BxW.empty (h : BxW w1 L r w) {x : Bx} (hx : x ∈ L) (hs : r x.s = none) {u : Value} (hu : r x.a = some u) : ∃ g, u = x.v g ∧ w1.heap.size ≤ g ∧ g < w.heap.size ∧ w.heap[g]? = some (.cells x.zero x.t (0, 0)) := by
  obtain ⟨g, h1, h2, h3, h4⟩ := h.box x hx u hu
  rw [hs] at h4
  exact ⟨g, h1, h2, h3, h4⟩
end
end Go.Kq
