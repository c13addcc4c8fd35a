/- Chapter 09: large, Least. · Chapter 09: the insertion sort of a row of indices, as slices.insertionSortCmpFunc does it: plain. · A region that draws its order, calls what writes nothing, and stores one cell: an invariant for wp_region_each. No program in sight. · Rows that make and literals lay: plain facts. No program in sight. · Boxes that a region makes and fills in whatever order: an invariant for wp_region_each. No program in sight. · Chapter 09: the orders of spots. · Chapter 09: before: the order of cuts. · Chapter 09: slices.CompareFunc at spots. -/
import Derived.Sort.Grow
import Derived.StillTailTactics
import Derived.Test.YtamjhpdgclbfgaaXLibBitM
import Derived.Test.YtamjhpdgclbfgaaXLibHvM
import Derived.Test.YtamjhpdgclbfgaaXLibRowM
import Derived.Test.YtamjhpdgclbfgaaXLibReg
namespace Go.Proofs.Ytamjhpdgclbfgaa
open Go.RowKit Go.Kq

def bigC (P : Pt) (c : Ct) : Bool := decide (P.w < c.w) || decide (P.h < c.h)
set_option maxHeartbeats 2000000 in
theorem bigC_any (P : Pt) (g : Nat) (v3 : Value) (c : Ct) (w : World) (hb : w.heap[g]? = some (.cells #[.int .i64 P.w, .int .i64 P.h, .int .i64 P.k, v3] 56 (0, 0))) :
    Calls Try.prog 56 #[c.val, .pointer (some ⟨g, 0, none⟩)] w fun e w' => e = .returned (.bool (bigC P c)) ∧ Kp No w w' := by
  have hg : g < w.heap.size := (Array.getElem?_eq_some_iff.1 hb).1
  have b0 : w.cell? ⟨g, 0, none⟩ = some (.int .i64 P.w) := by rw [cell_of_row _ _ _ _ _ _ hb]; rfl
  have b1 : w.cell? ⟨g, 1, none⟩ = some (.int .i64 P.h) := by rw [cell_of_row _ _ _ _ _ _ hb]; rfl
  clear hb
  unfold bigC Ct.val
  have hk0 : Kp No w (w.alloc (.cells #[.int .i64 c.w, .int .i64 c.h] 35)) := Kp.alloc _ _ _
  go_enter Try.func56, Try.ntmps56
  by_cases h1 : P.w < c.w
  · go_wp2_with fail
    go_ret
    exact ⟨ret_bool (by simp [h1]), hk0⟩
  · go_wp2_with fail
    go_ret
    exact ⟨ret_bool (by simp; omega), hk0⟩
set_option maxHeartbeats 2000000 in
theorem large_any (P : Pt) (A : Option Addr) (n ca : Nat) (l : List Ct) (w : World) (hx : RdC w A n l) (hn : n ≤ 100000000) :
    Calls Try.prog 27 #[jobV P A n ca] w fun e w' => e = .returned (.bool (l.any (bigC P))) ∧ Kp No w w' := by
  have hk0 : Kp No w (w.alloc (.cells #[.int .i64 P.w, .int .i64 P.h, .int .i64 P.k, .slice A n ca] 56)) := Kp.alloc _ _ _
  have hbx : (w.alloc (.cells #[.int .i64 P.w, .int .i64 P.h, .int .i64 P.k, .slice A n ca] 56)).heap[w.heap.size]? = some (.cells #[.int .i64 P.w, .int .i64 P.h, .int .i64 P.k, .slice A n ca] 56 (0, 0)) := heap_alloc_new _ _
  have HC := Lib.hid (contains_large (cv := .pointer (some ⟨w.heap.size, 0, none⟩)) A n ca l (bigC P) _ (hx.no hk0) hn (fun v w' k => bigC_any P w.heap.size (.slice A n ca) v w' (k.heap hbx id)))
  unfold jobV
  generalize l.any (bigC P) = q at *
  clear hx hbx
  go_enter Try.func27, Try.ntmps27
  go_wp2_with fail
  with_reducible refine HC.out.mono ?_
  rintro e w1 ⟨rfl, k1⟩
  go_wp2_with fail
  go_ret
  exact ⟨rfl, hk0.tr k1⟩
def sumA (K : Int) (l : List Ct) : Int := (l.map fun c => (c.w + K) * (c.h + K)).sum
theorem sumA_snoc (K : Int) (l : List Ct) (c : Ct) : sumA K (l ++ [c]) = sumA K l + (c.w + K) * (c.h + K) := by simp [sumA]
def lstV (P : Pt) (l : List Ct) : Int × Int := if jchk P l 200 = 0 then ((sumA P.k l + (P.w + P.k) * (P.h + P.k) - 1) / ((P.w + P.k) * (P.h + P.k)), 0) else (0, jchk P l 200)
theorem outB_no' {n a b : Int} (h : outB n a b = false) : a ≤ n ∧ n ≤ b := by
  unfold outB at h
  simp at h
  omega
theorem badC_no {c : Ct} (h : badC c = false) : (1 ≤ c.w ∧ c.w ≤ 20000000) ∧ 1 ≤ c.h ∧ c.h ≤ 20000000 := by
  unfold badC at h
  rw [Bool.or_eq_false_iff] at h
  exact ⟨outB_no' h.1, outB_no' h.2⟩
structure JobOk (P : Pt) (l : List Ct) (m : Int) : Prop where
  len : (l.length : Int) ≤ m
  w : 1 ≤ P.w ∧ P.w ≤ 20000000
  h : 1 ≤ P.h ∧ P.h ≤ 20000000
  k : 0 ≤ P.k ∧ P.k ≤ 50000
  cut : ∀ c ∈ l, (1 ≤ c.w ∧ c.w ≤ 20000000) ∧ 1 ≤ c.h ∧ c.h ≤ 20000000
theorem job_ok {P : Pt} {l : List Ct} {m : Int} (h : jchk P l m = 0) : JobOk P l m := by
  unfold jchk at h
  by_cases h1 : m < (l.length : Int)
  · rw [if_pos h1] at h
    cases h
  rw [if_neg h1] at h
  cases hb : jbad P l with
  | true =>
    rw [hb, if_pos rfl] at h
    cases h
  | false =>
    unfold jbad at hb
    rw [Bool.or_eq_false_iff, Bool.or_eq_false_iff] at hb
    have b1 := badC_no hb.1.1
    exact ⟨by omega, b1.1, b1.2, outB_no' hb.1.2, fun c hc => badC_no (by
      have := hb.2
      rw [List.any_eq_false] at this
      simpa using this c hc)⟩
theorem area_bd {a b K : Int} (ha : 1 ≤ a ∧ a ≤ 20000000) (hb : 1 ≤ b ∧ b ≤ 20000000) (hK : 0 ≤ K ∧ K ≤ 50000) : 1 ≤ (a + K) * (b + K) ∧ (a + K) * (b + K) ≤ 402002500000000 := by
  constructor
  · have := Int.mul_le_mul (a := 1) (b := 1) (c := a + K) (d := b + K) (by omega) (by omega) (by omega) (by omega)
    omega
  · have := Int.mul_le_mul (a := a + K) (b := b + K) (c := 20050000) (d := 20050000) (by omega) (by omega) (by omega) (by omega)
    omega
theorem sumA_bd {K : Int} (hK : 0 ≤ K ∧ K ≤ 50000) : ∀ l : List Ct, (∀ c ∈ l, (1 ≤ c.w ∧ c.w ≤ 20000000) ∧ 1 ≤ c.h ∧ c.h ≤ 20000000) → 0 ≤ sumA K l ∧ sumA K l ≤ l.length * 402002500000000
  | [], _ => by simp [sumA]
  | c :: l, h => by
    have h1 := sumA_bd hK l fun d hd => h d (by simp [hd])
    have h2 := h c (by simp)
    have h3 := area_bd h2.1 h2.2 hK
    have e : sumA K (c :: l) = (c.w + K) * (c.h + K) + sumA K l := by simp [sumA]
    rw [e]
    simp only [List.length_cons]
    omega
set_option maxHeartbeats 4000000 in
theorem Least_any (P : Pt) (A : Option Addr) (n ca : Nat) (l : List Ct) (w : World) (hx : RdC w A n l) (hn : n ≤ 100000000) :
    Calls Try.prog 17 #[P.val, .slice A n ca] w fun e w' => e = .returned (.tuple #[.int .i64 (lstV P l).1, .int .i64 (lstV P l).2]) ∧ Kp No w w' := by
  have hk0 : Kp No w (w.alloc (.cells #[.int .i64 P.w, .int .i64 P.h, .int .i64 P.k] 23)) := Kp.alloc _ _ _
  have hbx : (w.alloc (.cells #[.int .i64 P.w, .int .i64 P.h, .int .i64 P.k] 23)).heap[w.heap.size]? = some (.cells #[.int .i64 P.w, .int .i64 P.h, .int .i64 P.k] 23 (0, 0)) := heap_alloc_new _ _
  have HC := Lib.hid (jcheck_any P A n ca l 200 _ (hx.no hk0) hn)
  have HV := Lib.hid (show lstV P l = if jchk P l 200 = 0 then ((sumA P.k l + (P.w + P.k) * (P.h + P.k) - 1) / ((P.w + P.k) * (P.h + P.k)), 0) else (0, jchk P l 200) from rfl)
  have HX := Lib.hid hx
  have HL := Lib.hid hx.1
  clear hx
  unfold Pt.val
  rw [HV.out]
  clear HV
  by_cases hc : jchk P l 200 = 0
  rotate_left
  · rw [if_neg hc]
    generalize jchk P l 200 = c at *
    clear HX HL hbx
    simp only [jobV] at HC
    go_enter Try.func17, Try.ntmps17
    go_wp2_with fail
    with_reducible refine HC.out.mono ?_
    rintro e w1 ⟨rfl, k1⟩
    go_wp2_with fail
    exact bodyPost_ret (v := .tuple #[.int .i64 0, .int .i64 c]) (by simp [results, Try.results17, go_sem]) rfl ⟨rfl, hk0.tr k1⟩
  have J := Lib.hid (job_ok hc)
  rw [if_pos hc]
  rw [hc] at HC
  simp only [jobV] at HC
  have ha := area_bd J.out.w J.out.h J.out.k
  have hb := sumA_bd J.out.k l J.out.cut
  have hl := J.out.len
  have hkk := J.out.k
  have hww := J.out.w
  have hhh := J.out.h
  have hn2 : n ≤ 200 := by have := HL.out; omega
  clear hc
  go_enter Try.func17, Try.ntmps17
  go_wp2_with fail
  with_reducible refine HC.out.mono ?_
  rintro e w1 ⟨rfl, k1⟩
  obtain ⟨gp, hgp⟩ : ∃ gp, gp = w.heap.size := ⟨_, rfl⟩
  rw [← hgp] at hbx ⊢
  have HB := Lib.hid (k1.heap hbx id)
  have HK := Lib.hid (hk0.tr k1)
  clear HC hbx hgp hk0 k1
  go_wp2_with fail
  go_loopw [7, 20] (fun v7 v20 wr => ∃ k : Nat, k ≤ n ∧ v20 = .int .i64 k ∧ v7 = .int .i64 (sumA P.k (l.take k)) ∧ Kp No w1 wr) (fun _ v20 _ => n - (intOf v20).toNat)
  case atStart => exact ⟨0, by omega, rfl, rfl, Kp.refl _ _⟩
  case round =>
    obtain ⟨k, hk, rfl, rfl, hkp⟩ := hrel
    have HB1 := Lib.hid (hkp.heap HB.out id)
    have b0 : wr.cell? ⟨gp, 0, none⟩ = some (.int .i64 P.w) := by rw [cell_of_row _ _ _ _ _ _ HB1.out]; rfl
    have b1 : wr.cell? ⟨gp, 1, none⟩ = some (.int .i64 P.h) := by rw [cell_of_row _ _ _ _ _ _ HB1.out]; rfl
    have b2 : wr.cell? ⟨gp, 2, none⟩ = some (.int .i64 P.k) := by rw [cell_of_row _ _ _ _ _ _ HB1.out]; rfl
    have hg : gp < wr.heap.size := (Array.getElem?_eq_some_iff.1 HB1.out).1
    have HK1 := Lib.hid (HK.out.tr hkp)
    have HKP := Lib.hid hkp
    clear hkp
    by_cases hlt : k < n
    · obtain ⟨c, hv⟩ : ∃ c, l[k]? = some c := ⟨_, List.getElem?_eq_getElem (by rw [HL.out]; exact hlt)⟩
      have hcb := J.out.cut c (List.mem_of_getElem? hv)
      obtain ⟨b, o, rfl, hb', hc'⟩ := (HX.out.no HK1.out).2 k c hv
      have c0 := hc' 0 _ rfl
      have c1 := hc' 1 _ rfl
      simp only [Nat.add_zero] at c0
      have HS := Lib.hid (show sumA P.k (l.take (k + 1)) = sumA P.k (l.take k) + (c.w + P.k) * (c.h + P.k) by rw [List.take_add_one, hv]; exact sumA_snoc _ _ _)
      have h1 := sumA_bd J.out.k (l.take k) fun d hd => J.out.cut d (List.mem_of_mem_take hd)
      have h2 := area_bd hcb.1 hcb.2 J.out.k
      have h3 : (l.take k).length = k := by rw [List.length_take, HL.out]; omega
      rw [h3] at h1
      have h5 : (k : Int) ≤ 200 := by omega
      clear hv hc'
      go_wp2_with fail
      go_roundw
      case rel => exact ⟨k + 1, by omega, by go_num, by rw [HS.out], HKP.out.tr (Kp.alloc _ _ _)⟩
      case measure => simp [intOf]; omega
    · obtain rfl : k = n := by omega
      have HT := Lib.hid (show l.take k = l by rw [List.take_of_length_le (by rw [HL.out]; omega)])
      rw [HT.out]
      go_wp2_with fail
      exact bodyPost_ret (v := .tuple #[.int .i64 ((sumA P.k l + (P.w + P.k) * (P.h + P.k) - 1) / ((P.w + P.k) * (P.h + P.k))), .int .i64 0]) (by simp [results, Try.results17, go_sem]) rfl ⟨rfl, HK1.out⟩
end Go.Proofs.Ytamjhpdgclbfgaa

namespace Go.Proofs.Ytamjhpdgclbfgaa
open Go.RowKit Go.Kq

def swpL (d : List Nat) (j : Nat) : List Nat := (d.set (j + 1) (d.getD j 0)).set j (d.getD (j + 1) 0)
theorem swpL_len (d : List Nat) (j : Nat) : (swpL d j).length = d.length := by simp [swpL]
def insIn (cf : Nat → Nat → Int) : Nat → List Nat → List Nat
  | 0, d => d
  | j + 1, d => if cf (d.getD (j + 1) 0) (d.getD j 0) < 0 then insIn cf j (swpL d j) else d
theorem insIn_len (cf : Nat → Nat → Int) : ∀ (j : Nat) (d : List Nat), (insIn cf j d).length = d.length
  | 0, _ => rfl
  | j + 1, d => by
    unfold insIn
    split
    · rw [insIn_len cf j, swpL_len]
    · rfl
/-- The row behind round i (from 1 on). -/
def insAt (cf : Nat → Nat → Int) (d : List Nat) : Nat → List Nat
  | 0 => d
  | i + 1 => insIn cf (i + 1) (insAt cf d i)
theorem insAt_len (cf : Nat → Nat → Int) (d : List Nat) : ∀ i, (insAt cf d i).length = d.length
  | 0 => rfl
  | i + 1 => by
    unfold insAt
    rw [insIn_len, insAt_len cf d i]
theorem swpL_perm {d : List Nat} {j : Nat} (h : j + 1 < d.length) : (swpL d j).Perm d := by
  unfold swpL
  have e1 : d.getD j 0 = d[j] := by rw [List.getD_eq_getElem?_getD, List.getElem?_eq_getElem (by omega)]; rfl
  have e2 : d.getD (j + 1) 0 = d[j + 1] := by rw [List.getD_eq_getElem?_getD, List.getElem?_eq_getElem h]; rfl
  rw [e1, e2]
  exact List.set_set_perm h (by omega)
theorem insIn_perm (cf : Nat → Nat → Int) : ∀ (j : Nat) (d : List Nat), j < d.length → (insIn cf j d).Perm d
  | 0, _, _ => List.Perm.refl _
  | j + 1, d, h => by
    unfold insIn
    split
    · exact (insIn_perm cf j (swpL d j) (by rw [swpL_len]; omega)).trans (swpL_perm h)
    · exact List.Perm.refl _
theorem insAt_lt {cf : Nat → Nat → Int} {d : List Nat} {n : Nat} (h : ∀ v ∈ d, v < n) : ∀ q : Nat, q < d.length → ∀ v ∈ insAt cf d q, v < n
  | 0, _ => h
  | q + 1, hq => fun v hv => by
    unfold insAt at hv
    exact insAt_lt h q (by omega) v ((insIn_perm cf (q + 1) (insAt cf d q) (by rw [insAt_len]; exact hq)).mem_iff.1 hv)
end Go.Proofs.Ytamjhpdgclbfgaa

namespace Go.Kq
open Go.RowKit

/-- Operation st stores V at ad; ch: which operation comes behind which one. -/
structure HvC (base : World) (ad : Addr) (V : Value) (st : Nat) (ch : List (Nat × Nat)) (r : Nat → Option Value) (w : World) : Prop where
  b0 : r st = none → Kp No base w
  b1 : r st ≠ none → ∃ w0, Kp No base w0 ∧ w = w0.setCell ad V
  bl : ∀ p ∈ ch, r p.1 ≠ none → r p.2 ≠ none
section
variable {base w : World} {ad : Addr} {V : Value} {st : Nat} {ch : List (Nat × Nat)} {r : Nat → Option Value}
theorem HvC.start (base : World) (ad : Addr) (V : Value) (st : Nat) (ch : List (Nat × Nat)) : HvC base ad V st ch (fun _ => none) base.drew := ⟨fun _ => Kp.drew _ _, fun h => absurd rfl h, fun _ _ h => absurd rfl h⟩
theorem HvC.back (h : HvC base ad V st ch r w) {x y : Nat} (hp : (x, y) ∈ ch) (hy : r y = none) : r x = none :=
  Classical.byContradiction fun e => h.bl _ hp e hy
theorem upd_some {r : Nat → Option Value} {i j : Nat} {v : Value} (h : r j ≠ none) : Kq.upd r i v j ≠ none := by
  by_cases e : j = i
  · subst e; rw [upd_same]; exact fun h => by cases h
  · rw [upd_ne _ _ e]; exact h
theorem chain_upd {r : Nat → Option Value} {i : Nat} {v : Value} (hb : ∀ p ∈ ch, r p.1 ≠ none → r p.2 ≠ none) (hc : ∀ p ∈ ch, p.1 = i → r p.2 ≠ none) : ∀ p ∈ ch, Kq.upd r i v p.1 ≠ none → Kq.upd r i v p.2 ≠ none := fun p hp h => by
  by_cases e : p.1 = i
  · exact upd_some (hc p hp e)
  · rw [upd_ne _ _ e] at h
    exact upd_some (hb p hp h)
theorem HvC.updL (h : HvC base ad V st ch r w) (i : Nat) (v : Value) (hi : i ≠ st) (hc : ∀ p ∈ ch, p.1 = i → r p.2 ≠ none) : HvC base ad V st ch (Kq.upd r i v) w := by
  have e1 : Kq.upd r i v st = r st := upd_ne _ _ (fun e => hi e.symm)
  exact ⟨by rw [e1]; exact h.b0, by rw [e1]; exact h.b1, chain_upd h.bl hc⟩
theorem HvC.upd (h : HvC base ad V st ch r w) (i : Nat) (v : Value) (hi : i ≠ st) (hc : ∀ p ∈ ch, p.1 ≠ i) : HvC base ad V st ch (Kq.upd r i v) w :=
  h.updL i v hi fun p hp e => absurd e (hc p hp)
theorem HvC.store (h : HvC base ad V st ch r w) (v : Value) (hr : r st = none) (hc : ∀ p ∈ ch, p.1 = st → r p.2 ≠ none) : HvC base ad V st ch (Kq.upd r st v) (w.setCell ad V) :=
  ⟨fun e => (by rw [upd_same] at e; cases e), fun _ => ⟨w, h.b0 hr, rfl⟩, chain_upd h.bl hc⟩
end
end Go.Kq

namespace Go.Kq
open Go.RowKit

theorem made_flat {α : Type} (f : α → List Value) (x : α) (z : Array Value) (s n : Nat) (hz : z.size = s) (hs : 0 < s) (hf : f x = z.toList) : madeCells z (n * s) = ((List.replicate n x).flatMap f).toArray := by
  have hfl : ∀ y : Unit, ((fun _ : Unit => z.toList) y).length = s := fun _ => by simpa using hz
  have e : (List.replicate n x).flatMap f = (List.replicate n ()).flatMap fun _ => z.toList := by
    rw [List.flatMap_replicate, List.flatMap_replicate, hf]
  rw [e]
  apply Array.ext
  · rw [size_madeCells, List.size_toArray, flat_len hfl, List.length_replicate]
  · intro i h1 h2
    rw [size_madeCells] at h1
    have hd : i / s < n := Nat.div_lt_of_lt_mul (by rw [Nat.mul_comm]; exact h1)
    have hm : i % s < z.size := by rw [hz]; exact Nat.mod_lt _ hs
    have := flat_at hfl (List.replicate n ()) (i / s) () (i % s) z[i % s] (by simp [hd]) (by simp [hm])
    rw [Nat.div_add_mod'] at this
    obtain ⟨h3, h4⟩ := List.getElem?_eq_some_iff.1 this
    simp only [List.getElem_toArray]
    rw [h4]
    have hm' : z[i % s]! = z[i % s] := getElem!_pos z (i % s) hm
    simp [madeCells, hz, hm']
theorem own_made (w : World) {base e s n : Nat} {xs : List Value} (hl : xs.length = n * s) (hb : base ≤ w.heap.size) (hn : n ≤ maxLen) : (w.alloc (.cells xs.toArray e)).ownsRow base e s (.slice (some ⟨w.heap.size, 0, none⟩) n n) n xs :=
  ⟨hl, .inr ⟨_, n, xs.toArray, rfl, hb, heap_alloc_new w _, Nat.le_refl _, hn, by simpa using hl, by rw [← hl]; simp⟩⟩
theorem run_make_flat {P : Program} (w : World) {α : Type} (f : α → List Value) (x : α) (t e : TypeId) (i : TypeInfo) (z : Value) (s bytes n : Nat) (ht : P.underlying t = some (.slice e)) (hi : P.info? e = some i) (hz : i.zero = some z) (hsz : i.size = s) (hby : i.bytes = bytes) (hs : 0 < s) (hzs : z.cells.size = s) (hf : f x = z.cells.toList) (hb : bytes * n ≤ 281474976710656) (hn : n ≤ 9223372036854775807) :
    (Instr.makeSlice t (.int .i64 (n : Nat)) (.int .i64 (n : Nat))).run P w = .ok (.slice (some ⟨w.heap.size, 0, none⟩) n n) (w.alloc (.cells ((List.replicate n x).flatMap f).toArray e)) := by
  have h := run_make (P := P) w t e i z ht hi hz .i64 .i64 n n (by omega) (by omega) (by rw [hby, ← Int.natCast_mul]; omega) (by omega)
  rw [h, hsz, show (n : Int).toNat = n by omega, made_flat f x z.cells s n hzs hs hf]
end Go.Kq

namespace Go.Kq
open Go.RowKit

/-- A box: operation a makes it, with the cells zero; operation s fills it: then it has the cells full. v: what operation a gives. -/
structure Bx where
  a : Nat
  s : Nat
  t : TypeId
  zero : Array Value
  full : Array Value
  v : Nat → Value
def slcV (n : Nat) (g : Nat) : Value := .slice (some ⟨g, 0, none⟩) n n
theorem slcV_inj (n : Nat) {a b : Nat} (h : slcV n a = slcV n b) : a = b := by
  unfold slcV at h
  injection h with h
  injection h with h
  injection h
/-- The numbers of operations are apart. -/
def apartL (L : List Bx) : Bool := decide ((L.map (·.a) ++ L.map (·.s)).Nodup)
structure BxW (w1 : World) (L : List Bx) (r : Nat → Option Value) (w : World) : Prop where
  kp : Kp No w1 w
  box : ∀ x ∈ L, ∀ u, r x.a = some u → ∃ g, u = x.v g ∧ w1.heap.size ≤ g ∧ g < w.heap.size ∧ w.heap[g]? = some (.cells (if (r x.s).isSome then x.full else x.zero) x.t (0, 0))
  ne : ∀ x ∈ L, ∀ y ∈ L, x.a ≠ y.a → ∀ g h, r x.a = some (x.v g) → r y.a = some (y.v h) → g ≠ h
  had : ∀ x ∈ L, r x.s ≠ none → r x.a ≠ none
section
variable {w1 w w' : World} {L : List Bx} {r : Nat → Option Value}
theorem BxW.start (w1 : World) (L : List Bx) : BxW w1 L (fun _ => none) w1.drew :=
  ⟨Kp.drew _ _, fun _ _ _ h => (by cases h), fun _ _ _ _ _ _ _ h => (by cases h), fun _ _ h => absurd rfl h⟩
def freeOf (L : List Bx) (i : Nat) : Bool := L.all fun x => decide (x.a ≠ i) && decide (x.s ≠ i)
theorem freeOf_of {i : Nat} (h : freeOf L i = true) {x : Bx} (hx : x ∈ L) : x.a ≠ i ∧ x.s ≠ i := by
  have := List.all_eq_true.1 h x hx
  simpa using this
theorem BxW.upd {i : Nat} (h : BxW w1 L r w) (hf : freeOf L i = true) (v : Value) : BxW w1 L (Kq.upd r i v) w := by
  have e1 : ∀ x ∈ L, Kq.upd r i v x.a = r x.a := fun x hx => upd_ne _ _ (freeOf_of hf hx).1
  have e2 : ∀ x ∈ L, Kq.upd r i v x.s = r x.s := fun x hx => upd_ne _ _ (freeOf_of hf hx).2
  refine ⟨h.kp, fun x hx u hu => ?_, fun x hx y hy hne g k h1 h2 => ?_, fun x hx hs => ?_⟩
  · rw [e1 x hx] at hu
    rw [e2 x hx]
    exact h.box x hx u hu
  · rw [e1 x hx] at h1
    rw [e1 y hy] at h2
    exact h.ne x hx y hy hne g k h1 h2
  · rw [e2 x hx] at hs
    rw [e1 x hx]
    exact h.had x hx hs
theorem BxW.call (h : BxW w1 L r w) (k : Kp No w w') : BxW w1 L r w' :=
  ⟨h.kp.tr k, fun x hx u hu => by
    obtain ⟨g, h1, h2, h3, h4⟩ := h.box x hx u hu
    exact ⟨g, h1, h2, Nat.lt_of_lt_of_le h3 k.size, k.heap h4 id⟩, h.ne, h.had⟩
theorem nodup_idx (hL : apartL L = true) {x y : Bx} (hx : x ∈ L) (hy : y ∈ L) : x.a ≠ y.s ∧ (x.s = y.s → x.a = y.a) := by
  unfold apartL at hL
  rw [decide_eq_true_eq, List.nodup_append] at hL
  obtain ⟨_, h2, h3⟩ := hL
  refine ⟨h3 _ (List.mem_map_of_mem hx) _ (List.mem_map_of_mem hy), fun e => ?_⟩
  obtain ⟨i, hi, hxi⟩ := List.mem_iff_getElem.1 hx
  obtain ⟨j, hj, hyj⟩ := List.mem_iff_getElem.1 hy
  have hij : i = j := by
    have hp := List.pairwise_iff_getElem.1 h2
    rcases Nat.lt_trichotomy i j with h | h | h
    · have := hp i j (by simpa using hi) (by simpa using hj) h
      simp [hxi, hyj, e] at this
    · exact h
    · have := hp j i (by simpa using hj) (by simpa using hi) h
      simp [hxi, hyj, e] at this
  subst hij
  rw [← hxi, ← hyj]
theorem BxW.alloc (h : BxW w1 L r w) (hL : apartL L = true) {x : Bx} (hx : x ∈ L) (hr : r x.a = none) (hv : ∀ y ∈ L, ∀ {p q}, y.v p = y.v q → p = q) (hsame : ∀ y ∈ L, y.a = x.a → y = x) : BxW w1 L (Kq.upd r x.a (x.v w.heap.size)) (w.alloc (.cells x.zero x.t)) := by
  have hs : r x.s = none := by
    cases hs : r x.s with
    | none => rfl
    | some v => exact absurd hr (h.had x hx (by rw [hs]; simp))
  have es : ∀ y ∈ L, Kq.upd r x.a (x.v w.heap.size) y.s = r y.s := fun y hy => upd_ne _ _ (fun e => (nodup_idx hL hx hy).1 e.symm)
  have hnew : (w.alloc (.cells x.zero x.t)).heap[w.heap.size]? = some (.cells x.zero x.t (0, 0)) := heap_alloc_new w _
  refine ⟨h.kp.tr (Kp.alloc _ _ _), fun y hy u hu => ?_, fun y hy z hz hne g k h1 h2 => ?_, fun y hy hys => ?_⟩
  · rw [es y hy]
    by_cases e : y.a = x.a
    · obtain rfl := hsame y hy e
      rw [upd_same] at hu
      cases hu
      refine ⟨_, rfl, h.kp.size, by simp, ?_⟩
      rw [hs]
      exact hnew
    · rw [upd_ne _ _ e] at hu
      obtain ⟨g, q1, q2, q3, q4⟩ := h.box y hy u hu
      exact ⟨g, q1, q2, by simp; omega, (Kp.alloc No w _).heap q4 id⟩
  · by_cases e1 : y.a = x.a
    · obtain rfl := hsame y hy e1
      rw [upd_same] at h1
      rw [upd_ne _ _ (fun e => hne e.symm)] at h2
      obtain ⟨g', q1, _, q3, _⟩ := h.box z hz _ h2
      have e2 := hv y hy (Option.some.inj h1)
      have e3 := hv z hz q1
      omega
    · rw [upd_ne _ _ e1] at h1
      by_cases e2 : z.a = x.a
      · obtain rfl := hsame z hz e2
        rw [upd_same] at h2
        obtain ⟨g', q1, _, q3, _⟩ := h.box y hy _ h1
        have e3 := hv y hy q1
        have e4 := hv z hz (Option.some.inj h2)
        omega
      · rw [upd_ne _ _ e2] at h2
        exact h.ne y hy z hz hne g k h1 h2
  · rw [es y hy] at hys
    have := h.had y hy hys
    by_cases e : y.a = x.a
    · rw [e, upd_same]; simp
    · rw [upd_ne _ _ e]
      exact this
theorem BxW.store (h : BxW w1 L r w) (hL : apartL L = true) {x : Bx} (hx : x ∈ L) {g : Nat} (hr : r x.a = some (x.v g)) (hgl : w1.heap.size ≤ g) (_hv : ∀ y ∈ L, ∀ {p q}, y.v p = y.v q → p = q) (hsame : ∀ y ∈ L, y.a = x.a → y = x) (hk : Kp (One g) w w') (hg : w'.heap[g]? = some (.cells x.full x.t (0, 0))) (v : Value) :
    BxW w1 L (Kq.upd r x.s v) w' := by
  have ea : ∀ y ∈ L, Kq.upd r x.s v y.a = r y.a := fun y hy => upd_ne _ _ (nodup_idx hL hy hx).1
  refine ⟨h.kp.trans hk (fun k hk e => by unfold One at e; omega), fun y hy u hu => ?_, fun y hy z hz hne p q h1 h2 => ?_, fun y hy hys => ?_⟩
  · rw [ea y hy] at hu
    by_cases e : y.a = x.a
    · obtain rfl := hsame y hy e
      rw [hr] at hu
      cases hu
      refine ⟨g, rfl, hgl, (Array.getElem?_eq_some_iff.1 hg).1, ?_⟩
      rw [upd_same]
      exact hg
    · obtain ⟨g', q1, q2, q3, q4⟩ := h.box y hy u hu
      subst q1
      have hne := h.ne y hy x hx e g' g hu hr
      refine ⟨g', rfl, q2, Nat.lt_of_lt_of_le q3 hk.size, ?_⟩
      rw [upd_ne _ _ (fun e2 => e ((nodup_idx hL hy hx).2 e2))]
      exact hk.heap q4 (fun e => hne e)
  · rw [ea y hy] at h1
    rw [ea z hz] at h2
    exact h.ne y hy z hz hne p q h1 h2
  · rw [ea y hy]
    by_cases e : y.s = x.s
    · have := hsame y hy ((nodup_idx hL hy hx).2 e)
      subst this
      rw [hr]
      simp
    · rw [upd_ne _ _ e] at hys
      exact h.had y hy hys
/-- A filled box. -/
theorem BxW.filled (h : BxW w1 L r w) {x : Bx} (hx : x ∈ L) (hs : r x.s ≠ none) : ∃ g, r x.a = some (x.v g) ∧ w1.heap.size ≤ g ∧ g < w.heap.size ∧ w.heap[g]? = some (.cells x.full x.t (0, 0)) := by
  cases ha : r x.a with
  | none => exact absurd ha (h.had x hx hs)
  | some u =>
    obtain ⟨g, rfl, h2, h3, h4⟩ := h.box x hx u ha
    rw [if_pos (Option.isSome_iff_ne_none.2 hs)] at h4
    exact ⟨g, rfl, h2, h3, h4⟩
/-- A box that has not been filled. -/
theorem BxW.empty (h : BxW w1 L r w) {x : Bx} (hx : x ∈ L) (hs : r x.s = none) {u : Value} (hu : r x.a = some u) : ∃ g, u = x.v g ∧ w1.heap.size ≤ g ∧ g < w.heap.size ∧ w.heap[g]? = some (.cells x.zero x.t (0, 0)) := by
  obtain ⟨g, h1, h2, h3, h4⟩ := h.box x hx u hu
  rw [hs] at h4
  exact ⟨g, h1, h2, h3, h4⟩
end
end Go.Kq

namespace Go.Proofs.Ytamjhpdgclbfgaa
open Go.RowKit Go.Kq

theorem rdi2 (w : World) (x y : Int) : RdI .i64 (w.alloc (.cells #[.int .i64 x, .int .i64 y] 3)) (some ⟨w.heap.size, 0, none⟩) 2 [x, y] := by
  refine ⟨rfl, fun i u hu => ?_⟩
  match i, hu with
  | 0, hu => simp at hu; subst hu; exact ⟨_, _, rfl, by simp, by go_simp⟩
  | 1, hu => simp at hu; subst hu; exact ⟨_, _, rfl, by simp, by go_simp⟩
  | n + 2, hu => simp at hu
set_option maxHeartbeats 2000000 in
set_option maxRecDepth 100000 in
theorem cmpS_any (a b : Spo) (w : World) : Calls Try.prog 112 #[a.val, b.val] w fun e w' => e = .returned (.int .i64 (cmpS a b)) ∧ ∃ q os, w' = Sort.grow (w.drewN q) os := by
  obtain ⟨a1, a2, a3, a4⟩ := a
  obtain ⟨b1, b2, b3, b4⟩ := b
  simp only [Spo.val, cmpS]
  go_enter Try.func112, Try.ntmps112
  go_wp2_with fail
  generalize hg : (w.alloc (.cells #[.int .i64 a1, .int .i64 a2, .int .i64 a3, .int .i64 a4] 52)).alloc (.cells #[.int .i64 b1, .int .i64 b2, .int .i64 b3, .int .i64 b4] 52) = w1
  have HG := Lib.hid hg
  have x0 : w1.cell? ⟨w.heap.size, 0, none⟩ = some (.int .i64 a1) := by rw [← hg]; clear hg HG; go_simp
  have x1 : w1.cell? ⟨w.heap.size, 1, none⟩ = some (.int .i64 a2) := by rw [← hg]; clear hg HG; go_simp
  have y0 : w1.cell? ⟨w.heap.size + 1, 0, none⟩ = some (.int .i64 b1) := by rw [← hg]; clear hg HG; go_simp
  have y1 : w1.cell? ⟨w.heap.size + 1, 1, none⟩ = some (.int .i64 b2) := by rw [← hg]; clear hg HG; go_simp
  clear hg
  refine wp_region_still_tail 10 (by kernel_rfl) (by kernel_rfl) ?_
  simp only [List.take_succ_cons, List.take_zero, List.drop_succ_cons, List.drop_zero]
  repeat (first | still_step | still_call (cmpI_any _ _ _))
  refine wpStill_nil ?_
  change wpList _ _ _ _ _ w1.drew
  have hw1 : ∃ q os, w1.drew = Sort.grow (w.drewN q) os := ⟨1, _, by rw [← HG.out, Sort.alloc_eq_grow, Sort.alloc_eq_grow, Sort.grow_grow]; rfl⟩
  have HW := Lib.hid hw1
  clear hw1 x0 x1 y0 y1 HG
  generalize w1.drew = w2 at HW ⊢
  go_wp2_with (go_at_call 66; refine (or_any _ 2 2 _ _ (rdi2 _ _ _) (by omega)).mono ?_; rintro e w' ⟨rfl, rfl⟩)
  go_ret
  obtain ⟨q, os, h⟩ := HW.out
  exact ⟨rfl, q, _, by rw [Sort.alloc_eq_grow, h, Sort.grow_grow]⟩
end Go.Proofs.Ytamjhpdgclbfgaa

namespace Go.Proofs.Ytamjhpdgclbfgaa
open Go.RowKit Go.Kq

theorem rdi3 (w : World) (x y z : Int) : RdI .i64 (w.alloc (.cells #[.int .i64 x, .int .i64 y, .int .i64 z] 3)) (some ⟨w.heap.size, 0, none⟩) 3 [x, y, z] := by
  refine ⟨rfl, fun i u hu => ?_⟩
  match i, hu with
  | 0, hu => simp at hu; subst hu; exact ⟨_, _, rfl, by simp, by go_simp⟩
  | 1, hu => simp at hu; subst hu; exact ⟨_, _, rfl, by simp, by go_simp⟩
  | 2, hu => simp at hu; subst hu; exact ⟨_, _, rfl, by simp, by go_simp⟩
  | n + 3, hu => simp at hu
set_option maxHeartbeats 4000000 in
set_option maxRecDepth 100000 in
theorem before_any (P : Pt) (A : Option Addr) (n ca : Nat) (l : List Ct) (i k : Nat) (x y : Ct) (w : World) (hx : RdC w A n l) (hi : l[i]? = some x) (hk : l[k]? = some y) :
    Calls Try.prog 37 #[jobV P A n ca, .int .i64 (i : Nat), .int .i64 (k : Nat)] w fun e w' => e = .returned (.int .i64 (orL [cmpI y.h x.h, cmpI y.w x.w, cmpI (i : Nat) (k : Nat)])) ∧ ∃ q os, w' = Sort.grow (w.drewN q) os := by
  have hin : i < n := by rw [← hx.1]; exact (List.getElem?_eq_some_iff.1 hi).1
  have hkn : k < n := by rw [← hx.1]; exact (List.getElem?_eq_some_iff.1 hk).1
  have hk0 : Kp No w (w.alloc (.cells #[.int .i64 P.w, .int .i64 P.h, .int .i64 P.k, .slice A n ca] 56)) := Kp.alloc _ _ _
  have hr := hx.no hk0
  obtain ⟨b, o, rfl, hb, hc⟩ := hr.2 i x hi
  obtain ⟨b', o', he, _, hc'⟩ := hr.2 k y hk
  cases he
  obtain ⟨w1, hw1⟩ : ∃ w1, w1 = w.alloc (.cells #[.int .i64 P.w, .int .i64 P.h, .int .i64 P.k, .slice (some ⟨b, o, none⟩) n ca] 56) := ⟨_, rfl⟩
  rw [← hw1] at hb hc hc'
  have c0 := hc 0 _ rfl
  have c1 := hc 1 _ rfl
  have d0 := hc' 0 _ rfl
  have d1 := hc' 1 _ rfl
  simp only [Nat.add_zero] at c0 d0
  have s3 : w1.cell? ⟨w.heap.size, 3, none⟩ = some (.slice (some ⟨b, o, none⟩) n ca) := by rw [hw1, cell_of_row _ _ _ _ _ _ (heap_alloc_new w _)]; rfl
  have HG := Lib.hid hw1
  clear hc hc' hr hx hi hk hk0
  simp only [jobV]
  go_enter Try.func37, Try.ntmps37
  go_wp2_with fail
  rw [← hw1]
  clear hw1
  refine wp_region_still_tail 29 (by kernel_rfl) (by kernel_rfl) ?_
  simp only [List.take_succ_cons, List.take_zero, List.drop_succ_cons, List.drop_zero]
  repeat (first | still_step | still_call (cmpL_any _ _ _) | still_call (cmpI_any _ _ _))
  refine wpStill_nil ?_
  change wpList _ _ _ _ _ w1.drew
  have hw1 : ∃ q os, w1.drew = Sort.grow (w.drewN q) os := ⟨1, _, by rw [HG.out, Sort.alloc_eq_grow]; rfl⟩
  have HW := Lib.hid hw1
  clear hw1 c0 c1 d0 d1 s3 HG hb
  generalize w1.drew = w2 at HW ⊢
  go_wp2_with (go_at_call 66; refine (or_any _ 3 3 _ _ (rdi3 _ _ _ _) (by omega)).mono ?_; rintro e w' ⟨rfl, rfl⟩)
  go_ret
  obtain ⟨q, os, h⟩ := HW.out
  exact ⟨rfl, q, _, by rw [Sort.alloc_eq_grow, h, Sort.grow_grow]⟩
end Go.Proofs.Ytamjhpdgclbfgaa

namespace Go.Proofs.Ytamjhpdgclbfgaa
open Go.RowKit Go.Kq

theorem kp_of_grow {w w' : World} (h : ∃ q os, w' = Sort.grow (w.drewN q) os) : Kp No w w' := by
  obtain ⟨q, os, rfl⟩ := h
  refine ⟨rfl, rfl, rfl, ?_, fun k hk _ => ?_⟩
  · show w.heap.size ≤ (w.heap ++ os).size
    simp
  · show (w.heap ++ os)[k]? = w.heap[k]?
    exact Array.getElem?_append_left hk
theorem drop_at {α : Type} {l : List α} {k : Nat} {v : α} (h : l[k]? = some v) : l.drop k = v :: l.drop (k + 1) := by
  obtain ⟨hk, rfl⟩ := List.getElem?_eq_some_iff.1 h
  exact List.drop_eq_getElem_cons hk
theorem cmpSs_eq {a b : List Spo} {k : Nat} {x y : Spo} (hx : a[k]? = some x) (hy : b[k]? = some y) (h : cmpS x y = 0) : cmpSs (a.drop k) (b.drop k) = cmpSs (a.drop (k + 1)) (b.drop (k + 1)) := by
  rw [drop_at hx, drop_at hy]
  simp [cmpSs, h]
theorem cmpSs_ne {a b : List Spo} {k : Nat} {x y : Spo} (hx : a[k]? = some x) (hy : b[k]? = some y) (h : cmpS x y ≠ 0) : cmpSs (a.drop k) (b.drop k) = cmpS x y := by
  rw [drop_at hx, drop_at hy]
  simp [cmpSs, h]
theorem cmpSs_long {a b : List Spo} {k : Nat} {x : Spo} (hx : a[k]? = some x) (hb : b.length ≤ k) : cmpSs (a.drop k) (b.drop k) = 1 := by
  rw [drop_at hx, List.drop_of_length_le hb]
  rfl
theorem cmpSs_end {a b : List Spo} {k : Nat} (ha : a.length = k) : cmpSs (a.drop k) (b.drop k) = if k < b.length then -1 else 0 := by
  rw [List.drop_of_length_le (by omega)]
  by_cases h : k < b.length
  · rw [if_pos h, List.drop_eq_getElem_cons h]
    rfl
  · rw [if_neg h, List.drop_of_length_le (by omega)]
    rfl
set_option maxHeartbeats 4000000 in
set_option maxRecDepth 100000 in
theorem compare_any (A : Option Addr) (n ca : Nat) (a : List Spo) (B : Option Addr) (m cb : Nat) (b : List Spo) (w : World) (hx : RdS w A n a) (hy : RdS w B m b) (hn : n ≤ 100000000) (hm : m ≤ 100000000) :
    Calls Try.prog 111 #[.slice A n ca, .slice B m cb, .func (.func 112) #[] #[]] w fun e w' => e = .returned (.int .i64 (cmpSs a b)) ∧ Kp No w w' := by
  have HX := Lib.hid hx
  have HY := Lib.hid hy
  have HN := Lib.hid hx.1
  have HM := Lib.hid hy.1
  have HE := Lib.hid (show cmpSs a b = cmpSs (a.drop 0) (b.drop 0) from rfl)
  generalize cmpSs a b = cc at HE ⊢
  clear hx hy
  go_enter Try.func111, Try.ntmps111
  go_wp2_with fail
  go_loopw [13] (fun i wr => ∃ k : Nat, k ≤ n ∧ k ≤ m ∧ i = .int .i64 k ∧ cc = cmpSs (a.drop k) (b.drop k) ∧ Kp No w wr) (fun i _ => n - (intOf i).toNat)
  case atStart => exact ⟨0, by omega, by omega, rfl, HE.out, Kp.refl _ _⟩
  case round =>
    obtain ⟨k, hk, hkm, rfl, hcc, hkp⟩ := hrel
    have HCC := Lib.hid hcc
    have HK := Lib.hid hkp
    clear hcc hkp
    by_cases hlt : k < n
    · obtain ⟨x, hv⟩ : ∃ x, a[k]? = some x := ⟨_, List.getElem?_eq_getElem (by rw [HN.out]; exact hlt)⟩
      obtain ⟨g, o, rfl, hb, hc⟩ := (HX.out.no HK.out).2 k x hv
      have c0 := hc 0 _ rfl
      have c1 := hc 1 _ rfl
      have c2 := hc 2 _ rfl
      have c3 := hc 3 _ rfl
      simp only [Nat.add_zero] at c0
      have HV := Lib.hid hv
      clear hv hc
      by_cases hlm : k < m
      · obtain ⟨y, hv⟩ : ∃ y, b[k]? = some y := ⟨_, List.getElem?_eq_getElem (by rw [HM.out]; exact hlm)⟩
        obtain ⟨g', o', rfl, hb', hc⟩ := (HY.out.no HK.out).2 k y hv
        have d0 := hc 0 _ rfl
        have d1 := hc 1 _ rfl
        have d2 := hc 2 _ rfl
        have d3 := hc 3 _ rfl
        simp only [Nat.add_zero] at d0
        have HU := Lib.hid hv
        clear hv hc
        have HC := Lib.hid (fun w0 => cmpS_any x y w0)
        simp only [Spo.val] at HC
        by_cases h0 : cmpS x y = 0
        · have HR := Lib.hid (cmpSs_eq HV.out HU.out h0)
          rw [h0] at HC
          clear h0
          go_wp2_with fail
          with_reducible refine (HC.out _).mono ?_
          rintro e w2 ⟨rfl, hq⟩
          have hk2 := Lib.hid (((Kp.alloc No wr _).tr (Kp.alloc No _ _)).tr (kp_of_grow hq))
          clear hq
          go_wp2_with fail
          go_roundw
          case rel => exact ⟨k + 1, by omega, by omega, by go_num, HCC.out.trans HR.out, HK.out.tr hk2.out⟩
          case measure => simp [intOf]; omega
        · have HR := Lib.hid (cmpSs_ne HV.out HU.out h0)
          generalize cmpS x y = q at h0 HC HR
          go_wp2_with fail
          with_reducible refine (HC.out _).mono ?_
          rintro e w2 ⟨rfl, hq⟩
          have hk2 := Lib.hid (((Kp.alloc No wr _).tr (Kp.alloc No _ _)).tr (kp_of_grow hq))
          clear hq
          go_wp2_with fail
          go_ret
          exact ⟨by rw [HCC.out, HR.out]; rfl, HK.out.tr hk2.out⟩
      · have HR := Lib.hid (cmpSs_long (b := b) HV.out (by rw [HM.out]; omega))
        go_wp2_with fail
        go_ret
        exact ⟨by rw [HCC.out, HR.out]; rfl, HK.out.tr (Kp.alloc _ _ _)⟩
    · obtain rfl : k = n := by omega
      have HR := Lib.hid (cmpSs_end (b := b) HN.out)
      rw [HM.out] at HR
      by_cases hlm : k < m
      · rw [if_pos hlm] at HR
        go_wp2_with fail
        go_ret
        exact ⟨by rw [HCC.out, HR.out]; rfl, HK.out⟩
      · rw [if_neg hlm] at HR
        go_wp2_with fail
        go_ret
        exact ⟨by rw [HCC.out, HR.out]; rfl, HK.out⟩
end Go.Proofs.Ytamjhpdgclbfgaa
