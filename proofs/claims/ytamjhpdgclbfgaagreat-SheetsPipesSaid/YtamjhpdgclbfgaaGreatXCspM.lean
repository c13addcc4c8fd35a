/- A region that draws its order, calls what writes nothing, and stores one cell: an invariant for wp_region_each. No program in sight. · Chapter 09: the reference's Weight: the walk. · Chapter 09: the insertion sort of a row of indices, as slices.insertionSortCmpFunc does it: plain. · Chapter 09: the orders of spots. · Chapter 09: before: the order of cuts. · Chapter 09: slices.CompareFunc at spots. -/
import Derived.Sort.Grow
import Derived.StillTailTactics
import Derived.Test.YtamjhpdgclbfgaaGreatXLibBoxM
import Derived.Test.YtamjhpdgclbfgaaGreatXWePM
import Derived.Test.YtamjhpdgclbfgaaGreatXLibQuoFM
import Derived.Test.YtamjhpdgclbfgaaGreatXLibMakeM
import Derived.Test.YtamjhpdgclbfgaaGreatXLibBitM
namespace Go.Kq
open Go.RowKit

/-- Operation st stores V at ad; ch: which operation comes behind which one. -/
structure HvC (base : World) (ad : Addr) (V : Value) (st : Nat) (ch : List (Nat × Nat)) (r : Nat → Option Value) (w : World) : Prop where
  b0 : r st = none → Kp No base w
  b1 : r st ≠ none → ∃ w0, Kp No base w0 ∧ w = w0.setCell ad V
  bl : ∀ p ∈ ch, r p.1 ≠ none → r p.2 ≠ none
section
variable {base w : World} {ad : Addr} {V : Value} {st : Nat} {ch : List (Nat × Nat)} {r : Nat → Option Value}
theorem HvC.start (base : World) (ad : Addr) (V : Value) (st : Nat) (ch : List (Nat × Nat)) : HvC base ad V st ch (fun _ => none) base.drew := ⟨fun _ => Kp.drew _ _, fun h => absurd rfl h, fun _ _ h => absurd rfl h⟩
theorem HvC.back (h : HvC base ad V st ch r w) {x y : Nat} (hp : (x, y) ∈ ch) (hy : r y = none) : r x = none :=
  Classical.byContradiction fun e => h.bl _ hp e hy
theorem upd_some {r : Nat → Option Value} {i j : Nat} {v : Value} (h : r j ≠ none) : Kq.upd r i v j ≠ none := by
  by_cases e : j = i
  · subst e; rw [upd_same]; exact fun h => by cases h
  · rw [upd_ne _ _ e]; exact h
theorem chain_upd {r : Nat → Option Value} {i : Nat} {v : Value} (hb : ∀ p ∈ ch, r p.1 ≠ none → r p.2 ≠ none) (hc : ∀ p ∈ ch, p.1 = i → r p.2 ≠ none) : ∀ p ∈ ch, Kq.upd r i v p.1 ≠ none → Kq.upd r i v p.2 ≠ none := fun p hp h => by
  by_cases e : p.1 = i
  · exact upd_some (hc p hp e)
  · rw [upd_ne _ _ e] at h
    exact upd_some (hb p hp h)
theorem HvC.updL (h : HvC base ad V st ch r w) (i : Nat) (v : Value) (hi : i ≠ st) (hc : ∀ p ∈ ch, p.1 = i → r p.2 ≠ none) : HvC base ad V st ch (Kq.upd r i v) w := by
  have e1 : Kq.upd r i v st = r st := upd_ne _ _ (fun e => hi e.symm)
  exact ⟨by rw [e1]; exact h.b0, by rw [e1]; exact h.b1, chain_upd h.bl hc⟩
theorem HvC.upd (h : HvC base ad V st ch r w) (i : Nat) (v : Value) (hi : i ≠ st) (hc : ∀ p ∈ ch, p.1 ≠ i) : HvC base ad V st ch (Kq.upd r i v) w :=
  h.updL i v hi fun p hp e => absurd e (hc p hp)
theorem HvC.store (h : HvC base ad V st ch r w) (v : Value) (hr : r st = none) (hc : ∀ p ∈ ch, p.1 = st → r p.2 ≠ none) : HvC base ad V st ch (Kq.upd r st v) (w.setCell ad V) :=
  ⟨fun e => (by rw [upd_same] at e; cases e), fun _ => ⟨w, h.b0 hr, rfl⟩, chain_upd h.bl hc⟩
end
end Go.Kq

namespace Go.Proofs.YtamjhpdgclbfgaaGreat
open Go.RowKit Go.Kq

theorem rone_any (n : Int) (w : World) : Calls Tryz.prog 19 #[.int .i64 n] w fun e w' => e = .returned (ivV n n) ∧ Kp No w w' := by
  go_enter Tryz.func19, Tryz.ntmps19
  go_wp2
  have hk : Kp No w (w.alloc (.cells #[.int .i64 n, .int .i64 n] 38)) := Kp.alloc _ _ _
  have p0 : (w.alloc (.cells #[.int .i64 n, .int .i64 n] 38)).cell? ⟨w.heap.size, 0, none⟩ = some (.int .i64 n) := by go_simp
  have p1 : (w.alloc (.cells #[.int .i64 n, .int .i64 n] 38)).cell? ⟨w.heap.size, 1, none⟩ = some (.int .i64 n) := by go_simp
  generalize (w.alloc (.cells #[.int .i64 n, .int .i64 n] 38)) = w2 at p0 p1 hk ⊢
  exact bodyPost_ret (v := .agg #[.int .i64 n, .int .i64 n]) (by simp [results, Tryz.results19, go_sem, p0, p1]) rfl ⟨rfl, hk⟩
set_option maxHeartbeats 4000000 in
theorem rWeight_any (a t d : Int) (w : World) : Calls Tryz.prog 13 #[.int .i64 a, .int .i64 t, .int .i64 d] w fun e w' => e = .returned (ieV (wgtV a t d)) ∧ Kp No w w' := by
  have O1 := Lib.hid (fun w0 => from_any a 0 100000000000000000 w0)
  have O2 := Lib.hid (fun w0 => from_any t 1 10000 w0)
  have O3 := Lib.hid (fun w0 => from_any d 1 30000 w0)
  have HV := Lib.hid (show wgtV a t d = if wgtE a t d then (0, 0, 2) else spanV 1000000000000 (a * (t * d)) [a * (t * d)] from rfl)
  have HB : wgtE a t d = (outB a 0 100000000000000000 || outB t 1 10000 || outB d 1 30000) := rfl
  have hq1 : outB a 0 100000000000000000 = false → 0 ≤ a ∧ a ≤ 100000000000000000 := outB_no
  have hq2 : outB t 1 10000 = false → 1 ≤ t ∧ t ≤ 10000 := outB_no
  have hq3 : outB d 1 30000 = false → 1 ≤ d ∧ d ≤ 30000 := outB_no
  generalize wgtE a t d = be at *
  generalize outB a 0 100000000000000000 = q1 at *
  generalize outB t 1 10000 = q2 at *
  generalize outB d 1 30000 = q3 at *
  have HK0 := Lib.hid (show Kp No w (w.alloc (.cells #[.int .i64 0, .int .i64 0] 38)) from Kp.alloc _ _ _)
  have p0 : (w.alloc (.cells #[.int .i64 0, .int .i64 0] 38)).cell? ⟨w.heap.size, 0, none⟩ = some (.int .i64 0) := by go_simp
  have p1 : (w.alloc (.cells #[.int .i64 0, .int .i64 0] 38)).cell? ⟨w.heap.size, 1, none⟩ = some (.int .i64 0) := by go_simp
  simp only [HV.out, ieV, ivV]
  clear HV
  cases q1
  rotate_left
  · obtain rfl : be = true := by rw [HB]; rfl
    rw [if_pos rfl]
    clear HB hq1 hq2 hq3
    go_enter Tryz.func13, Tryz.ntmps13
    go_wp2_with fail
    with_reducible refine (O1.out _).mono ?_
    rintro e w1 ⟨rfl, hw⟩
    subst hw
    go_wp2_with fail
    exact bodyPost_ret (v := .tuple #[.agg #[.int .i64 0, .int .i64 0], .int .i64 2]) (by simp [results, Tryz.results13, go_sem, p0, p1]) rfl ⟨rfl, HK0.out⟩
  cases q2
  rotate_left
  · obtain rfl : be = true := by rw [HB]; rfl
    rw [if_pos rfl]
    clear HB hq1 hq2 hq3
    go_enter Tryz.func13, Tryz.ntmps13
    go_wp2_with fail
    with_reducible refine (O1.out _).mono ?_
    rintro e w1 ⟨rfl, hw⟩
    subst hw
    go_wp2_with fail
    with_reducible refine (O2.out _).mono ?_
    rintro e w1 ⟨rfl, hw⟩
    subst hw
    go_wp2_with fail
    exact bodyPost_ret (v := .tuple #[.agg #[.int .i64 0, .int .i64 0], .int .i64 2]) (by simp [results, Tryz.results13, go_sem, p0, p1]) rfl ⟨rfl, HK0.out⟩
  cases q3
  rotate_left
  · obtain rfl : be = true := by rw [HB]; rfl
    rw [if_pos rfl]
    clear HB hq1 hq2 hq3
    go_enter Tryz.func13, Tryz.ntmps13
    go_wp2_with fail
    with_reducible refine (O1.out _).mono ?_
    rintro e w1 ⟨rfl, hw⟩
    subst hw
    go_wp2_with fail
    with_reducible refine (O2.out _).mono ?_
    rintro e w1 ⟨rfl, hw⟩
    subst hw
    go_wp2_with fail
    with_reducible refine (O3.out _).mono ?_
    rintro e w1 ⟨rfl, hw⟩
    subst hw
    go_wp2_with fail
    exact bodyPost_ret (v := .tuple #[.agg #[.int .i64 0, .int .i64 0], .int .i64 2]) (by simp [results, Tryz.results13, go_sem, p0, p1]) rfl ⟨rfl, HK0.out⟩
  obtain rfl : be = false := by rw [HB]; rfl
  rw [if_neg (by decide)]
  have b1 := hq1 rfl
  have b2 := hq2 rfl
  have b3 := hq3 rfl
  have ht : 1 ≤ t * d ∧ t * d ≤ 300000000 := by
    constructor
    · have := Int.mul_le_mul b2.1 b3.1 (by omega) (by omega)
      omega
    · have := Int.mul_le_mul b2.2 b3.2 (by omega) (by omega)
      omega
  have S1 := Lib.hid (fun w0 => scale_is (a, a) (t * d) 1000000000000 w0 (ck_one a (by omega) (by omega)) (by omega) (by omega))
  simp only [span_eq (a := a) (num := t * d) (den := 1000000000000) (by omega)] at S1
  generalize spanV 1000000000000 (a * (t * d)) [a * (t * d)] = sv at *
  obtain ⟨v1, v2, v3⟩ := sv
  simp only [ieV, ivV] at S1
  have ON := Lib.hid (fun w0 => rone_any a w0)
  simp only [ivV] at ON
  clear HB hq1 hq2 hq3
  go_enter Tryz.func13, Tryz.ntmps13
  go_wp2_with fail
  with_reducible refine (O1.out _).mono ?_
  rintro e w1 ⟨rfl, hw⟩
  subst hw
  go_wp2_with fail
  with_reducible refine (O2.out _).mono ?_
  rintro e w1 ⟨rfl, hw⟩
  subst hw
  go_wp2_with fail
  with_reducible refine (O3.out _).mono ?_
  rintro e w1 ⟨rfl, hw⟩
  subst hw
  go_wp2_with fail
  with_reducible refine (ON.out _).mono ?_
  rintro e w1 ⟨rfl, k1⟩
  go_wp2_with fail
  with_reducible refine (S1.out _).mono ?_
  rintro e w2 ⟨rfl, k2⟩
  have k02 := k1.tr k2
  have HK2 := Lib.hid (HK0.out.tr k02)
  have g2 := k02.heap (heap_alloc_new w (.cells #[.int .i64 0, .int .i64 0] 38)) id
  obtain ⟨g0, g1, z0, z1⟩ := two_cells g2
  have hs : w.heap.size < w2.heap.size := World.block_lt_of_cell? _ _ g0
  clear k1 k2 p0 p1 g2
  go_wp2_with fail
  have f0 : ((w2.setCell ⟨w.heap.size, 0, none⟩ (.int .i64 v1)).setCell ⟨w.heap.size, 1, none⟩ (.int .i64 v2)).cell? ⟨w.heap.size, 0, none⟩ = some (.int .i64 v1) := by go_simp
  have f1 : ((w2.setCell ⟨w.heap.size, 0, none⟩ (.int .i64 v1)).setCell ⟨w.heap.size, 1, none⟩ (.int .i64 v2)).cell? ⟨w.heap.size, 1, none⟩ = some (.int .i64 v2) := by go_simp
  have hk3 : Kp No w ((w2.setCell ⟨w.heap.size, 0, none⟩ (.int .i64 v1)).setCell ⟨w.heap.size, 1, none⟩ (.int .i64 v2)) := kp_set2 HK2.out (Nat.le_refl _)
  generalize ((w2.setCell ⟨w.heap.size, 0, none⟩ (.int .i64 v1)).setCell ⟨w.heap.size, 1, none⟩ (.int .i64 v2)) = w3 at f0 f1 hk3 ⊢
  exact bodyPost_ret (v := .tuple #[.agg #[.int .i64 v1, .int .i64 v2], .int .i64 v3]) (by simp [results, Tryz.results13, go_sem, f0, f1]) rfl ⟨rfl, hk3⟩
end Go.Proofs.YtamjhpdgclbfgaaGreat

namespace Go.Proofs.YtamjhpdgclbfgaaGreat
open Go.RowKit Go.Kq

def swpL (d : List Nat) (j : Nat) : List Nat := (d.set (j + 1) (d.getD j 0)).set j (d.getD (j + 1) 0)
theorem swpL_len (d : List Nat) (j : Nat) : (swpL d j).length = d.length := by simp [swpL]
def insIn (cf : Nat → Nat → Int) : Nat → List Nat → List Nat
  | 0, d => d
  | j + 1, d => if cf (d.getD (j + 1) 0) (d.getD j 0) < 0 then insIn cf j (swpL d j) else d
theorem insIn_len (cf : Nat → Nat → Int) : ∀ (j : Nat) (d : List Nat), (insIn cf j d).length = d.length
  | 0, _ => rfl
  | j + 1, d => by
    unfold insIn
    split
    · rw [insIn_len cf j, swpL_len]
    · rfl
/-- The row behind round i (from 1 on). -/
def insAt (cf : Nat → Nat → Int) (d : List Nat) : Nat → List Nat
  | 0 => d
  | i + 1 => insIn cf (i + 1) (insAt cf d i)
theorem insAt_len (cf : Nat → Nat → Int) (d : List Nat) : ∀ i, (insAt cf d i).length = d.length
  | 0 => rfl
  | i + 1 => by
    unfold insAt
    rw [insIn_len, insAt_len cf d i]
theorem ins_ex : insAt (befF [⟨4, 4⟩, ⟨9, 5⟩, ⟨5, 3⟩]) [0, 1, 2] 2 = [1, 0, 2] := by kernel_rfl
theorem swpL_perm {d : List Nat} {j : Nat} (h : j + 1 < d.length) : (swpL d j).Perm d := by
  unfold swpL
  have e1 : d.getD j 0 = d[j] := by rw [List.getD_eq_getElem?_getD, List.getElem?_eq_getElem (by omega)]; rfl
  have e2 : d.getD (j + 1) 0 = d[j + 1] := by rw [List.getD_eq_getElem?_getD, List.getElem?_eq_getElem h]; rfl
  rw [e1, e2]
  exact List.set_set_perm h (by omega)
theorem insIn_perm (cf : Nat → Nat → Int) : ∀ (j : Nat) (d : List Nat), j < d.length → (insIn cf j d).Perm d
  | 0, _, _ => List.Perm.refl _
  | j + 1, d, h => by
    unfold insIn
    split
    · exact (insIn_perm cf j (swpL d j) (by rw [swpL_len]; omega)).trans (swpL_perm h)
    · exact List.Perm.refl _
theorem insAt_lt {cf : Nat → Nat → Int} {d : List Nat} {n : Nat} (h : ∀ v ∈ d, v < n) : ∀ q : Nat, q < d.length → ∀ v ∈ insAt cf d q, v < n
  | 0, _ => h
  | q + 1, hq => fun v hv => by
    unfold insAt at hv
    exact insAt_lt h q (by omega) v ((insIn_perm cf (q + 1) (insAt cf d q) (by rw [insAt_len]; exact hq)).mem_iff.1 hv)
end Go.Proofs.YtamjhpdgclbfgaaGreat

namespace Go.Proofs.YtamjhpdgclbfgaaGreat
open Go.RowKit Go.Kq

theorem rdi2 (w : World) (x y : Int) : RdI .i64 (w.alloc (.cells #[.int .i64 x, .int .i64 y] 3)) (some ⟨w.heap.size, 0, none⟩) 2 [x, y] := by
  refine ⟨rfl, fun i u hu => ?_⟩
  match i, hu with
  | 0, hu => simp at hu; subst hu; exact ⟨_, _, rfl, by simp, by go_simp⟩
  | 1, hu => simp at hu; subst hu; exact ⟨_, _, rfl, by simp, by go_simp⟩
  | n + 2, hu => simp at hu
set_option maxHeartbeats 2000000 in
set_option maxRecDepth 100000 in
theorem cmpS_any (a b : Spo) (w : World) : Calls Tryz.prog 119 #[a.val, b.val] w fun e w' => e = .returned (.int .i64 (cmpS a b)) ∧ ∃ q os, w' = Sort.grow (w.drewN q) os := by
  obtain ⟨a1, a2, a3, a4⟩ := a
  obtain ⟨b1, b2, b3, b4⟩ := b
  simp only [Spo.val, cmpS]
  go_enter Tryz.func119, Tryz.ntmps119
  go_wp2_with fail
  generalize hg : (w.alloc (.cells #[.int .i64 a1, .int .i64 a2, .int .i64 a3, .int .i64 a4] 58)).alloc (.cells #[.int .i64 b1, .int .i64 b2, .int .i64 b3, .int .i64 b4] 58) = w1
  have HG := Lib.hid hg
  have x0 : w1.cell? ⟨w.heap.size, 0, none⟩ = some (.int .i64 a1) := by rw [← hg]; clear hg HG; go_simp
  have x1 : w1.cell? ⟨w.heap.size, 1, none⟩ = some (.int .i64 a2) := by rw [← hg]; clear hg HG; go_simp
  have y0 : w1.cell? ⟨w.heap.size + 1, 0, none⟩ = some (.int .i64 b1) := by rw [← hg]; clear hg HG; go_simp
  have y1 : w1.cell? ⟨w.heap.size + 1, 1, none⟩ = some (.int .i64 b2) := by rw [← hg]; clear hg HG; go_simp
  clear hg
  refine wp_region_still_tail 10 (by kernel_rfl) (by kernel_rfl) ?_
  simp only [List.take_succ_cons, List.take_zero, List.drop_succ_cons, List.drop_zero]
  repeat (first | still_step | still_call (cmpI_any _ _ _))
  refine wpStill_nil ?_
  change wpList _ _ _ _ _ w1.drew
  have hw1 : ∃ q os, w1.drew = Sort.grow (w.drewN q) os := ⟨1, _, by rw [← HG.out, Sort.alloc_eq_grow, Sort.alloc_eq_grow, Sort.grow_grow]; rfl⟩
  have HW := Lib.hid hw1
  clear hw1 x0 x1 y0 y1 HG
  generalize w1.drew = w2 at HW ⊢
  go_wp2_with (go_at_call 89; refine (or_any _ 2 2 _ _ (rdi2 _ _ _) (by omega)).mono ?_; rintro e w' ⟨rfl, rfl⟩)
  go_ret
  obtain ⟨q, os, h⟩ := HW.out
  exact ⟨rfl, q, _, by rw [Sort.alloc_eq_grow, h, Sort.grow_grow]⟩
end Go.Proofs.YtamjhpdgclbfgaaGreat

namespace Go.Proofs.YtamjhpdgclbfgaaGreat
open Go.RowKit Go.Kq

theorem rdi3 (w : World) (x y z : Int) : RdI .i64 (w.alloc (.cells #[.int .i64 x, .int .i64 y, .int .i64 z] 3)) (some ⟨w.heap.size, 0, none⟩) 3 [x, y, z] := by
  refine ⟨rfl, fun i u hu => ?_⟩
  match i, hu with
  | 0, hu => simp at hu; subst hu; exact ⟨_, _, rfl, by simp, by go_simp⟩
  | 1, hu => simp at hu; subst hu; exact ⟨_, _, rfl, by simp, by go_simp⟩
  | 2, hu => simp at hu; subst hu; exact ⟨_, _, rfl, by simp, by go_simp⟩
  | n + 3, hu => simp at hu
set_option maxHeartbeats 4000000 in
set_option maxRecDepth 100000 in
theorem before_any (P : Pt) (A : Option Addr) (n ca : Nat) (l : List Ct) (i k : Nat) (x y : Ct) (w : World) (hx : RdC w A n l) (hi : l[i]? = some x) (hk : l[k]? = some y) :
    Calls Tryz.prog 58 #[jobV P A n ca, .int .i64 (i : Nat), .int .i64 (k : Nat)] w fun e w' => e = .returned (.int .i64 (orL [cmpI y.h x.h, cmpI y.w x.w, cmpI (i : Nat) (k : Nat)])) ∧ ∃ q os, w' = Sort.grow (w.drewN q) os := by
  have hin : i < n := by rw [← hx.1]; exact (List.getElem?_eq_some_iff.1 hi).1
  have hkn : k < n := by rw [← hx.1]; exact (List.getElem?_eq_some_iff.1 hk).1
  have hk0 : Kp No w (w.alloc (.cells #[.int .i64 P.w, .int .i64 P.h, .int .i64 P.k, .slice A n ca] 95)) := Kp.alloc _ _ _
  have hr := hx.no hk0
  obtain ⟨b, o, rfl, hb, hc⟩ := hr.2 i x hi
  obtain ⟨b', o', he, _, hc'⟩ := hr.2 k y hk
  cases he
  obtain ⟨w1, hw1⟩ : ∃ w1, w1 = w.alloc (.cells #[.int .i64 P.w, .int .i64 P.h, .int .i64 P.k, .slice (some ⟨b, o, none⟩) n ca] 95) := ⟨_, rfl⟩
  rw [← hw1] at hb hc hc'
  have c0 := hc 0 _ rfl
  have c1 := hc 1 _ rfl
  have d0 := hc' 0 _ rfl
  have d1 := hc' 1 _ rfl
  simp only [Nat.add_zero] at c0 d0
  have s3 : w1.cell? ⟨w.heap.size, 3, none⟩ = some (.slice (some ⟨b, o, none⟩) n ca) := by rw [hw1, cell_of_row _ _ _ _ _ _ (heap_alloc_new w _)]; rfl
  have HG := Lib.hid hw1
  clear hc hc' hr hx hi hk hk0
  simp only [jobV]
  go_enter Tryz.func58, Tryz.ntmps58
  go_wp2_with fail
  rw [← hw1]
  clear hw1
  refine wp_region_still_tail 29 (by kernel_rfl) (by kernel_rfl) ?_
  simp only [List.take_succ_cons, List.take_zero, List.drop_succ_cons, List.drop_zero]
  repeat (first | still_step | still_call (cmpL_any _ _ _) | still_call (cmpI_any _ _ _))
  refine wpStill_nil ?_
  change wpList _ _ _ _ _ w1.drew
  have hw1 : ∃ q os, w1.drew = Sort.grow (w.drewN q) os := ⟨1, _, by rw [HG.out, Sort.alloc_eq_grow]; rfl⟩
  have HW := Lib.hid hw1
  clear hw1 c0 c1 d0 d1 s3 HG hb
  generalize w1.drew = w2 at HW ⊢
  go_wp2_with (go_at_call 89; refine (or_any _ 3 3 _ _ (rdi3 _ _ _ _) (by omega)).mono ?_; rintro e w' ⟨rfl, rfl⟩)
  go_ret
  obtain ⟨q, os, h⟩ := HW.out
  exact ⟨rfl, q, _, by rw [Sort.alloc_eq_grow, h, Sort.grow_grow]⟩
end Go.Proofs.YtamjhpdgclbfgaaGreat

namespace Go.Proofs.YtamjhpdgclbfgaaGreat
open Go.RowKit Go.Kq

theorem kp_of_grow {w w' : World} (h : ∃ q os, w' = Sort.grow (w.drewN q) os) : Kp No w w' := by
  obtain ⟨q, os, rfl⟩ := h
  refine ⟨rfl, rfl, rfl, ?_, fun k hk _ => ?_⟩
  · show w.heap.size ≤ (w.heap ++ os).size
    simp
  · show (w.heap ++ os)[k]? = w.heap[k]?
    exact Array.getElem?_append_left hk
theorem drop_at {α : Type} {l : List α} {k : Nat} {v : α} (h : l[k]? = some v) : l.drop k = v :: l.drop (k + 1) := by
  obtain ⟨hk, rfl⟩ := List.getElem?_eq_some_iff.1 h
  exact List.drop_eq_getElem_cons hk
theorem cmpSs_eq {a b : List Spo} {k : Nat} {x y : Spo} (hx : a[k]? = some x) (hy : b[k]? = some y) (h : cmpS x y = 0) : cmpSs (a.drop k) (b.drop k) = cmpSs (a.drop (k + 1)) (b.drop (k + 1)) := by
  rw [drop_at hx, drop_at hy]
  simp [cmpSs, h]
theorem cmpSs_ne {a b : List Spo} {k : Nat} {x y : Spo} (hx : a[k]? = some x) (hy : b[k]? = some y) (h : cmpS x y ≠ 0) : cmpSs (a.drop k) (b.drop k) = cmpS x y := by
  rw [drop_at hx, drop_at hy]
  simp [cmpSs, h]
theorem cmpSs_long {a b : List Spo} {k : Nat} {x : Spo} (hx : a[k]? = some x) (hb : b.length ≤ k) : cmpSs (a.drop k) (b.drop k) = 1 := by
  rw [drop_at hx, List.drop_of_length_le hb]
  rfl
theorem cmpSs_end {a b : List Spo} {k : Nat} (ha : a.length = k) : cmpSs (a.drop k) (b.drop k) = if k < b.length then -1 else 0 := by
  rw [List.drop_of_length_le (by omega)]
  by_cases h : k < b.length
  · rw [if_pos h, List.drop_eq_getElem_cons h]
    rfl
  · rw [if_neg h, List.drop_of_length_le (by omega)]
    rfl
set_option maxHeartbeats 4000000 in
set_option maxRecDepth 100000 in
theorem compare_any (A : Option Addr) (n ca : Nat) (a : List Spo) (B : Option Addr) (m cb : Nat) (b : List Spo) (w : World) (hx : RdS w A n a) (hy : RdS w B m b) (hn : n ≤ 100000000) (hm : m ≤ 100000000) :
    Calls Tryz.prog 118 #[.slice A n ca, .slice B m cb, .func (.func 119) #[] #[]] w fun e w' => e = .returned (.int .i64 (cmpSs a b)) ∧ Kp No w w' := by
  have HX := Lib.hid hx
  have HY := Lib.hid hy
  have HN := Lib.hid hx.1
  have HM := Lib.hid hy.1
  have HE := Lib.hid (show cmpSs a b = cmpSs (a.drop 0) (b.drop 0) from rfl)
  generalize cmpSs a b = cc at HE ⊢
  clear hx hy
  go_enter Tryz.func118, Tryz.ntmps118
  go_wp2_with fail
  go_loopw [13] (fun i wr => ∃ k : Nat, k ≤ n ∧ k ≤ m ∧ i = .int .i64 k ∧ cc = cmpSs (a.drop k) (b.drop k) ∧ Kp No w wr) (fun i _ => n - (intOf i).toNat)
  case atStart => exact ⟨0, by omega, by omega, rfl, HE.out, Kp.refl _ _⟩
  case round =>
    obtain ⟨k, hk, hkm, rfl, hcc, hkp⟩ := hrel
    have HCC := Lib.hid hcc
    have HK := Lib.hid hkp
    clear hcc hkp
    by_cases hlt : k < n
    · obtain ⟨x, hv⟩ : ∃ x, a[k]? = some x := ⟨_, List.getElem?_eq_getElem (by rw [HN.out]; exact hlt)⟩
      obtain ⟨g, o, rfl, hb, hc⟩ := (HX.out.no HK.out).2 k x hv
      have c0 := hc 0 _ rfl
      have c1 := hc 1 _ rfl
      have c2 := hc 2 _ rfl
      have c3 := hc 3 _ rfl
      simp only [Nat.add_zero] at c0
      have HV := Lib.hid hv
      clear hv hc
      by_cases hlm : k < m
      · obtain ⟨y, hv⟩ : ∃ y, b[k]? = some y := ⟨_, List.getElem?_eq_getElem (by rw [HM.out]; exact hlm)⟩
        obtain ⟨g', o', rfl, hb', hc⟩ := (HY.out.no HK.out).2 k y hv
        have d0 := hc 0 _ rfl
        have d1 := hc 1 _ rfl
        have d2 := hc 2 _ rfl
        have d3 := hc 3 _ rfl
        simp only [Nat.add_zero] at d0
        have HU := Lib.hid hv
        clear hv hc
        have HC := Lib.hid (fun w0 => cmpS_any x y w0)
        simp only [Spo.val] at HC
        by_cases h0 : cmpS x y = 0
        · have HR := Lib.hid (cmpSs_eq HV.out HU.out h0)
          rw [h0] at HC
          clear h0
          go_wp2_with fail
          with_reducible refine (HC.out _).mono ?_
          rintro e w2 ⟨rfl, hq⟩
          have hk2 := Lib.hid (((Kp.alloc No wr _).tr (Kp.alloc No _ _)).tr (kp_of_grow hq))
          clear hq
          go_wp2_with fail
          go_roundw
          case rel => exact ⟨k + 1, by omega, by omega, by go_num, HCC.out.trans HR.out, HK.out.tr hk2.out⟩
          case measure => simp [intOf]; omega
        · have HR := Lib.hid (cmpSs_ne HV.out HU.out h0)
          generalize cmpS x y = q at h0 HC HR
          go_wp2_with fail
          with_reducible refine (HC.out _).mono ?_
          rintro e w2 ⟨rfl, hq⟩
          have hk2 := Lib.hid (((Kp.alloc No wr _).tr (Kp.alloc No _ _)).tr (kp_of_grow hq))
          clear hq
          go_wp2_with fail
          go_ret
          exact ⟨by rw [HCC.out, HR.out]; rfl, HK.out.tr hk2.out⟩
      · have HR := Lib.hid (cmpSs_long (b := b) HV.out (by rw [HM.out]; omega))
        go_wp2_with fail
        go_ret
        exact ⟨by rw [HCC.out, HR.out]; rfl, HK.out.tr (Kp.alloc _ _ _)⟩
    · obtain rfl : k = n := by omega
      have HR := Lib.hid (cmpSs_end (b := b) HN.out)
      rw [HM.out] at HR
      by_cases hlm : k < m
      · rw [if_pos hlm] at HR
        go_wp2_with fail
        go_ret
        exact ⟨by rw [HCC.out, HR.out]; rfl, HK.out⟩
      · rw [if_neg hlm] at HR
        go_wp2_with fail
        go_ret
        exact ⟨by rw [HCC.out, HR.out]; rfl, HK.out⟩
end Go.Proofs.YtamjhpdgclbfgaaGreat
