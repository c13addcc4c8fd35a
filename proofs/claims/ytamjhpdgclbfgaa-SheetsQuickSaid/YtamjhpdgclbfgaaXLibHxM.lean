/- Chapter 09: the insertion sort of a row of indices, as slices.insertionSortCmpFunc does it: plain. · Rows that make and literals lay: plain facts. No program in sight. · Chapter 09: the orders of spots. · Chapter 09: before: the order of cuts. · Chapter 09: slices.CompareFunc at spots. · A region that draws its order, calls what writes nothing, and stores one cell: an invariant for wp_region_each. No program in sight. -/
import Derived.Sort.Grow
import Derived.StillTailTactics
import Derived.Test.YtamjhpdgclbfgaaXLibHvM
import Derived.Test.YtamjhpdgclbfgaaXLibRowM
import Derived.Test.YtamjhpdgclbfgaaXSpaM
import Derived.Test.YtamjhpdgclbfgaaXLibBitM
namespace Go.Proofs.Ytamjhpdgclbfgaa
open Go.RowKit Go.Kq

def swpL (d : List Nat) (j : Nat) : List Nat := (d.set (j + 1) (d.getD j 0)).set j (d.getD (j + 1) 0)
theorem swpL_len (d : List Nat) (j : Nat) : (swpL d j).length = d.length := by simp [swpL]
def insIn (cf : Nat → Nat → Int) : Nat → List Nat → List Nat
  | 0, d => d
  | j + 1, d => if cf (d.getD (j + 1) 0) (d.getD j 0) < 0 then insIn cf j (swpL d j) else d
theorem insIn_len (cf : Nat → Nat → Int) : ∀ (j : Nat) (d : List Nat), (insIn cf j d).length = d.length
  | 0, _ => rfl
  | j + 1, d => by
    unfold insIn
    split
    · rw [insIn_len cf j, swpL_len]
    · rfl
/-- The row behind round i (from 1 on). -/
def insAt (cf : Nat → Nat → Int) (d : List Nat) : Nat → List Nat
  | 0 => d
  | i + 1 => insIn cf (i + 1) (insAt cf d i)
theorem insAt_len (cf : Nat → Nat → Int) (d : List Nat) : ∀ i, (insAt cf d i).length = d.length
  | 0 => rfl
  | i + 1 => by
    unfold insAt
    rw [insIn_len, insAt_len cf d i]
theorem ins_ex : insAt (befF [⟨4, 4⟩, ⟨9, 5⟩, ⟨5, 3⟩]) [0, 1, 2] 2 = [1, 0, 2] := by kernel_rfl
theorem swpL_perm {d : List Nat} {j : Nat} (h : j + 1 < d.length) : (swpL d j).Perm d := by
  unfold swpL
  have e1 : d.getD j 0 = d[j] := by rw [List.getD_eq_getElem?_getD, List.getElem?_eq_getElem (by omega)]; rfl
  have e2 : d.getD (j + 1) 0 = d[j + 1] := by rw [List.getD_eq_getElem?_getD, List.getElem?_eq_getElem h]; rfl
  rw [e1, e2]
  exact List.set_set_perm h (by omega)
theorem insIn_perm (cf : Nat → Nat → Int) : ∀ (j : Nat) (d : List Nat), j < d.length → (insIn cf j d).Perm d
  | 0, _, _ => List.Perm.refl _
  | j + 1, d, h => by
    unfold insIn
    split
    · exact (insIn_perm cf j (swpL d j) (by rw [swpL_len]; omega)).trans (swpL_perm h)
    · exact List.Perm.refl _
theorem insAt_lt {cf : Nat → Nat → Int} {d : List Nat} {n : Nat} (h : ∀ v ∈ d, v < n) : ∀ q : Nat, q < d.length → ∀ v ∈ insAt cf d q, v < n
  | 0, _ => h
  | q + 1, hq => fun v hv => by
    unfold insAt at hv
    exact insAt_lt h q (by omega) v ((insIn_perm cf (q + 1) (insAt cf d q) (by rw [insAt_len]; exact hq)).mem_iff.1 hv)
end Go.Proofs.Ytamjhpdgclbfgaa

namespace Go.Kq
open Go.RowKit

theorem made_flat {α : Type} (f : α → List Value) (x : α) (z : Array Value) (s n : Nat) (hz : z.size = s) (hs : 0 < s) (hf : f x = z.toList) : madeCells z (n * s) = ((List.replicate n x).flatMap f).toArray := by
  have hfl : ∀ y : Unit, ((fun _ : Unit => z.toList) y).length = s := fun _ => by simpa using hz
  have e : (List.replicate n x).flatMap f = (List.replicate n ()).flatMap fun _ => z.toList := by
    rw [List.flatMap_replicate, List.flatMap_replicate, hf]
  rw [e]
  apply Array.ext
  · rw [size_madeCells, List.size_toArray, flat_len hfl, List.length_replicate]
  · intro i h1 h2
    rw [size_madeCells] at h1
    have hd : i / s < n := Nat.div_lt_of_lt_mul (by rw [Nat.mul_comm]; exact h1)
    have hm : i % s < z.size := by rw [hz]; exact Nat.mod_lt _ hs
    have := flat_at hfl (List.replicate n ()) (i / s) () (i % s) z[i % s] (by simp [hd]) (by simp [hm])
    rw [Nat.div_add_mod'] at this
    obtain ⟨h3, h4⟩ := List.getElem?_eq_some_iff.1 this
    simp only [List.getElem_toArray]
    rw [h4]
    have hm' : z[i % s]! = z[i % s] := getElem!_pos z (i % s) hm
    simp [madeCells, hz, hm']
theorem own_made (w : World) {base e s n : Nat} {xs : List Value} (hl : xs.length = n * s) (hb : base ≤ w.heap.size) (hn : n ≤ maxLen) : (w.alloc (.cells xs.toArray e)).ownsRow base e s (.slice (some ⟨w.heap.size, 0, none⟩) n n) n xs :=
  ⟨hl, .inr ⟨_, n, xs.toArray, rfl, hb, heap_alloc_new w _, Nat.le_refl _, hn, by simpa using hl, by rw [← hl]; simp⟩⟩
theorem run_make_flat {P : Program} (w : World) {α : Type} (f : α → List Value) (x : α) (t e : TypeId) (i : TypeInfo) (z : Value) (s bytes n : Nat) (ht : P.underlying t = some (.slice e)) (hi : P.info? e = some i) (hz : i.zero = some z) (hsz : i.size = s) (hby : i.bytes = bytes) (hs : 0 < s) (hzs : z.cells.size = s) (hf : f x = z.cells.toList) (hb : bytes * n ≤ 281474976710656) (hn : n ≤ 9223372036854775807) :
    (Instr.makeSlice t (.int .i64 (n : Nat)) (.int .i64 (n : Nat))).run P w = .ok (.slice (some ⟨w.heap.size, 0, none⟩) n n) (w.alloc (.cells ((List.replicate n x).flatMap f).toArray e)) := by
  have h := run_make (P := P) w t e i z ht hi hz .i64 .i64 n n (by omega) (by omega) (by rw [hby, ← Int.natCast_mul]; omega) (by omega)
  rw [h, hsz, show (n : Int).toNat = n by omega, made_flat f x z.cells s n hzs hs hf]
end Go.Kq

namespace Go.Proofs.Ytamjhpdgclbfgaa
open Go.RowKit Go.Kq

theorem rdi2 (w : World) (x y : Int) : RdI .i64 (w.alloc (.cells #[.int .i64 x, .int .i64 y] 3)) (some ⟨w.heap.size, 0, none⟩) 2 [x, y] := by
  refine ⟨rfl, fun i u hu => ?_⟩
  match i, hu with
  | 0, hu => simp at hu; subst hu; exact ⟨_, _, rfl, by simp, by go_simp⟩
  | 1, hu => simp at hu; subst hu; exact ⟨_, _, rfl, by simp, by go_simp⟩
  | n + 2, hu => simp at hu
set_option maxHeartbeats 2000000 in
set_option maxRecDepth 100000 in
theorem cmpS_any (a b : Spo) (w : World) : Calls Try.prog 112 #[a.val, b.val] w fun e w' => e = .returned (.int .i64 (cmpS a b)) ∧ ∃ q os, w' = Sort.grow (w.drewN q) os := by
  obtain ⟨a1, a2, a3, a4⟩ := a
  obtain ⟨b1, b2, b3, b4⟩ := b
  simp only [Spo.val, cmpS]
  go_enter Try.func112, Try.ntmps112
  go_wp2_with fail
  generalize hg : (w.alloc (.cells #[.int .i64 a1, .int .i64 a2, .int .i64 a3, .int .i64 a4] 52)).alloc (.cells #[.int .i64 b1, .int .i64 b2, .int .i64 b3, .int .i64 b4] 52) = w1
  have HG := Lib.hid hg
  have x0 : w1.cell? ⟨w.heap.size, 0, none⟩ = some (.int .i64 a1) := by rw [← hg]; clear hg HG; go_simp
  have x1 : w1.cell? ⟨w.heap.size, 1, none⟩ = some (.int .i64 a2) := by rw [← hg]; clear hg HG; go_simp
  have y0 : w1.cell? ⟨w.heap.size + 1, 0, none⟩ = some (.int .i64 b1) := by rw [← hg]; clear hg HG; go_simp
  have y1 : w1.cell? ⟨w.heap.size + 1, 1, none⟩ = some (.int .i64 b2) := by rw [← hg]; clear hg HG; go_simp
  clear hg
  refine wp_region_still_tail 10 (by kernel_rfl) (by kernel_rfl) ?_
  simp only [List.take_succ_cons, List.take_zero, List.drop_succ_cons, List.drop_zero]
  repeat (first | still_step | still_call (cmpI_any _ _ _))
  refine wpStill_nil ?_
  change wpList _ _ _ _ _ w1.drew
  have hw1 : ∃ q os, w1.drew = Sort.grow (w.drewN q) os := ⟨1, _, by rw [← HG.out, Sort.alloc_eq_grow, Sort.alloc_eq_grow, Sort.grow_grow]; rfl⟩
  have HW := Lib.hid hw1
  clear hw1 x0 x1 y0 y1 HG
  generalize w1.drew = w2 at HW ⊢
  go_wp2_with (go_at_call 66; refine (or_any _ 2 2 _ _ (rdi2 _ _ _) (by omega)).mono ?_; rintro e w' ⟨rfl, rfl⟩)
  go_ret
  obtain ⟨q, os, h⟩ := HW.out
  exact ⟨rfl, q, _, by rw [Sort.alloc_eq_grow, h, Sort.grow_grow]⟩
end Go.Proofs.Ytamjhpdgclbfgaa

namespace Go.Proofs.Ytamjhpdgclbfgaa
open Go.RowKit Go.Kq

theorem rdi3 (w : World) (x y z : Int) : RdI .i64 (w.alloc (.cells #[.int .i64 x, .int .i64 y, .int .i64 z] 3)) (some ⟨w.heap.size, 0, none⟩) 3 [x, y, z] := by
  refine ⟨rfl, fun i u hu => ?_⟩
  match i, hu with
  | 0, hu => simp at hu; subst hu; exact ⟨_, _, rfl, by simp, by go_simp⟩
  | 1, hu => simp at hu; subst hu; exact ⟨_, _, rfl, by simp, by go_simp⟩
  | 2, hu => simp at hu; subst hu; exact ⟨_, _, rfl, by simp, by go_simp⟩
  | n + 3, hu => simp at hu
set_option maxHeartbeats 4000000 in
set_option maxRecDepth 100000 in
theorem before_any (P : Pt) (A : Option Addr) (n ca : Nat) (l : List Ct) (i k : Nat) (x y : Ct) (w : World) (hx : RdC w A n l) (hi : l[i]? = some x) (hk : l[k]? = some y) :
    Calls Try.prog 37 #[jobV P A n ca, .int .i64 (i : Nat), .int .i64 (k : Nat)] w fun e w' => e = .returned (.int .i64 (orL [cmpI y.h x.h, cmpI y.w x.w, cmpI (i : Nat) (k : Nat)])) ∧ ∃ q os, w' = Sort.grow (w.drewN q) os := by
  have hin : i < n := by rw [← hx.1]; exact (List.getElem?_eq_some_iff.1 hi).1
  have hkn : k < n := by rw [← hx.1]; exact (List.getElem?_eq_some_iff.1 hk).1
  have hk0 : Kp No w (w.alloc (.cells #[.int .i64 P.w, .int .i64 P.h, .int .i64 P.k, .slice A n ca] 56)) := Kp.alloc _ _ _
  have hr := hx.no hk0
  obtain ⟨b, o, rfl, hb, hc⟩ := hr.2 i x hi
  obtain ⟨b', o', he, _, hc'⟩ := hr.2 k y hk
  cases he
  obtain ⟨w1, hw1⟩ : ∃ w1, w1 = w.alloc (.cells #[.int .i64 P.w, .int .i64 P.h, .int .i64 P.k, .slice (some ⟨b, o, none⟩) n ca] 56) := ⟨_, rfl⟩
  rw [← hw1] at hb hc hc'
  have c0 := hc 0 _ rfl
  have c1 := hc 1 _ rfl
  have d0 := hc' 0 _ rfl
  have d1 := hc' 1 _ rfl
  simp only [Nat.add_zero] at c0 d0
  have s3 : w1.cell? ⟨w.heap.size, 3, none⟩ = some (.slice (some ⟨b, o, none⟩) n ca) := by rw [hw1, cell_of_row _ _ _ _ _ _ (heap_alloc_new w _)]; rfl
  have HG := Lib.hid hw1
  clear hc hc' hr hx hi hk hk0
  simp only [jobV]
  go_enter Try.func37, Try.ntmps37
  go_wp2_with fail
  rw [← hw1]
  clear hw1
  refine wp_region_still_tail 29 (by kernel_rfl) (by kernel_rfl) ?_
  simp only [List.take_succ_cons, List.take_zero, List.drop_succ_cons, List.drop_zero]
  repeat (first | still_step | still_call (cmpL_any _ _ _) | still_call (cmpI_any _ _ _))
  refine wpStill_nil ?_
  change wpList _ _ _ _ _ w1.drew
  have hw1 : ∃ q os, w1.drew = Sort.grow (w.drewN q) os := ⟨1, _, by rw [HG.out, Sort.alloc_eq_grow]; rfl⟩
  have HW := Lib.hid hw1
  clear hw1 c0 c1 d0 d1 s3 HG hb
  generalize w1.drew = w2 at HW ⊢
  go_wp2_with (go_at_call 66; refine (or_any _ 3 3 _ _ (rdi3 _ _ _ _) (by omega)).mono ?_; rintro e w' ⟨rfl, rfl⟩)
  go_ret
  obtain ⟨q, os, h⟩ := HW.out
  exact ⟨rfl, q, _, by rw [Sort.alloc_eq_grow, h, Sort.grow_grow]⟩
end Go.Proofs.Ytamjhpdgclbfgaa

namespace Go.Proofs.Ytamjhpdgclbfgaa
open Go.RowKit Go.Kq

theorem kp_of_grow {w w' : World} (h : ∃ q os, w' = Sort.grow (w.drewN q) os) : Kp No w w' := by
  obtain ⟨q, os, rfl⟩ := h
  refine ⟨rfl, rfl, rfl, ?_, fun k hk _ => ?_⟩
  · show w.heap.size ≤ (w.heap ++ os).size
    simp
  · show (w.heap ++ os)[k]? = w.heap[k]?
    exact Array.getElem?_append_left hk
theorem drop_at {α : Type} {l : List α} {k : Nat} {v : α} (h : l[k]? = some v) : l.drop k = v :: l.drop (k + 1) := by
  obtain ⟨hk, rfl⟩ := List.getElem?_eq_some_iff.1 h
  exact List.drop_eq_getElem_cons hk
theorem cmpSs_eq {a b : List Spo} {k : Nat} {x y : Spo} (hx : a[k]? = some x) (hy : b[k]? = some y) (h : cmpS x y = 0) : cmpSs (a.drop k) (b.drop k) = cmpSs (a.drop (k + 1)) (b.drop (k + 1)) := by
  rw [drop_at hx, drop_at hy]
  simp [cmpSs, h]
theorem cmpSs_ne {a b : List Spo} {k : Nat} {x y : Spo} (hx : a[k]? = some x) (hy : b[k]? = some y) (h : cmpS x y ≠ 0) : cmpSs (a.drop k) (b.drop k) = cmpS x y := by
  rw [drop_at hx, drop_at hy]
  simp [cmpSs, h]
theorem cmpSs_long {a b : List Spo} {k : Nat} {x : Spo} (hx : a[k]? = some x) (hb : b.length ≤ k) : cmpSs (a.drop k) (b.drop k) = 1 := by
  rw [drop_at hx, List.drop_of_length_le hb]
  rfl
theorem cmpSs_end {a b : List Spo} {k : Nat} (ha : a.length = k) : cmpSs (a.drop k) (b.drop k) = if k < b.length then -1 else 0 := by
  rw [List.drop_of_length_le (by omega)]
  by_cases h : k < b.length
  · rw [if_pos h, List.drop_eq_getElem_cons h]
    rfl
  · rw [if_neg h, List.drop_of_length_le (by omega)]
    rfl
set_option maxHeartbeats 4000000 in
set_option maxRecDepth 100000 in
theorem compare_any (A : Option Addr) (n ca : Nat) (a : List Spo) (B : Option Addr) (m cb : Nat) (b : List Spo) (w : World) (hx : RdS w A n a) (hy : RdS w B m b) (hn : n ≤ 100000000) (hm : m ≤ 100000000) :
    Calls Try.prog 111 #[.slice A n ca, .slice B m cb, .func (.func 112) #[] #[]] w fun e w' => e = .returned (.int .i64 (cmpSs a b)) ∧ Kp No w w' := by
  have HX := Lib.hid hx
  have HY := Lib.hid hy
  have HN := Lib.hid hx.1
  have HM := Lib.hid hy.1
  have HE := Lib.hid (show cmpSs a b = cmpSs (a.drop 0) (b.drop 0) from rfl)
  generalize cmpSs a b = cc at HE ⊢
  clear hx hy
  go_enter Try.func111, Try.ntmps111
  go_wp2_with fail
  go_loopw [13] (fun i wr => ∃ k : Nat, k ≤ n ∧ k ≤ m ∧ i = .int .i64 k ∧ cc = cmpSs (a.drop k) (b.drop k) ∧ Kp No w wr) (fun i _ => n - (intOf i).toNat)
  case atStart => exact ⟨0, by omega, by omega, rfl, HE.out, Kp.refl _ _⟩
  case round =>
    obtain ⟨k, hk, hkm, rfl, hcc, hkp⟩ := hrel
    have HCC := Lib.hid hcc
    have HK := Lib.hid hkp
    clear hcc hkp
    by_cases hlt : k < n
    · obtain ⟨x, hv⟩ : ∃ x, a[k]? = some x := ⟨_, List.getElem?_eq_getElem (by rw [HN.out]; exact hlt)⟩
      obtain ⟨g, o, rfl, hb, hc⟩ := (HX.out.no HK.out).2 k x hv
      have c0 := hc 0 _ rfl
      have c1 := hc 1 _ rfl
      have c2 := hc 2 _ rfl
      have c3 := hc 3 _ rfl
      simp only [Nat.add_zero] at c0
      have HV := Lib.hid hv
      clear hv hc
      by_cases hlm : k < m
      · obtain ⟨y, hv⟩ : ∃ y, b[k]? = some y := ⟨_, List.getElem?_eq_getElem (by rw [HM.out]; exact hlm)⟩
        obtain ⟨g', o', rfl, hb', hc⟩ := (HY.out.no HK.out).2 k y hv
        have d0 := hc 0 _ rfl
        have d1 := hc 1 _ rfl
        have d2 := hc 2 _ rfl
        have d3 := hc 3 _ rfl
        simp only [Nat.add_zero] at d0
        have HU := Lib.hid hv
        clear hv hc
        have HC := Lib.hid (fun w0 => cmpS_any x y w0)
        simp only [Spo.val] at HC
        by_cases h0 : cmpS x y = 0
        · have HR := Lib.hid (cmpSs_eq HV.out HU.out h0)
          rw [h0] at HC
          clear h0
          go_wp2_with fail
          with_reducible refine (HC.out _).mono ?_
          rintro e w2 ⟨rfl, hq⟩
          have hk2 := Lib.hid (((Kp.alloc No wr _).tr (Kp.alloc No _ _)).tr (kp_of_grow hq))
          clear hq
          go_wp2_with fail
          go_roundw
          case rel => exact ⟨k + 1, by omega, by omega, by go_num, HCC.out.trans HR.out, HK.out.tr hk2.out⟩
          case measure => simp [intOf]; omega
        · have HR := Lib.hid (cmpSs_ne HV.out HU.out h0)
          generalize cmpS x y = q at h0 HC HR
          go_wp2_with fail
          with_reducible refine (HC.out _).mono ?_
          rintro e w2 ⟨rfl, hq⟩
          have hk2 := Lib.hid (((Kp.alloc No wr _).tr (Kp.alloc No _ _)).tr (kp_of_grow hq))
          clear hq
          go_wp2_with fail
          go_ret
          exact ⟨by rw [HCC.out, HR.out]; rfl, HK.out.tr hk2.out⟩
      · have HR := Lib.hid (cmpSs_long (b := b) HV.out (by rw [HM.out]; omega))
        go_wp2_with fail
        go_ret
        exact ⟨by rw [HCC.out, HR.out]; rfl, HK.out.tr (Kp.alloc _ _ _)⟩
    · obtain rfl : k = n := by omega
      have HR := Lib.hid (cmpSs_end (b := b) HN.out)
      rw [HM.out] at HR
      by_cases hlm : k < m
      · rw [if_pos hlm] at HR
        go_wp2_with fail
        go_ret
        exact ⟨by rw [HCC.out, HR.out]; rfl, HK.out⟩
      · rw [if_neg hlm] at HR
        go_wp2_with fail
        go_ret
        exact ⟨by rw [HCC.out, HR.out]; rfl, HK.out⟩
end Go.Proofs.Ytamjhpdgclbfgaa

namespace Go.Kq
open Go.RowKit

/-- Operation st stores V at ad; ch: which operation comes behind which one. -/
structure HvC (base : World) (ad : Addr) (V : Value) (st : Nat) (ch : List (Nat × Nat)) (r : Nat → Option Value) (w : World) : Prop where
  b0 : r st = none → Kp No base w
  b1 : r st ≠ none → ∃ w0, Kp No base w0 ∧ w = w0.setCell ad V
  bl : ∀ p ∈ ch, r p.1 ≠ none → r p.2 ≠ none
section
variable {base w : World} {ad : Addr} {V : Value} {st : Nat} {ch : List (Nat × Nat)} {r : Nat → Option Value}
theorem HvC.start (base : World) (ad : Addr) (V : Value) (st : Nat) (ch : List (Nat × Nat)) : HvC base ad V st ch (fun _ => none) base.drew := ⟨fun _ => Kp.drew _ _, fun h => absurd rfl h, fun _ _ h => absurd rfl h⟩
theorem HvC.back (h : HvC base ad V st ch r w) {x y : Nat} (hp : (x, y) ∈ ch) (hy : r y = none) : r x = none :=
  Classical.byContradiction fun e => h.bl _ hp e hy
theorem upd_some {r : Nat → Option Value} {i j : Nat} {v : Value} (h : r j ≠ none) : Kq.upd r i v j ≠ none := by
  by_cases e : j = i
  · subst e; rw [upd_same]; exact fun h => by cases h
  · rw [upd_ne _ _ e]; exact h
theorem chain_upd {r : Nat → Option Value} {i : Nat} {v : Value} (hb : ∀ p ∈ ch, r p.1 ≠ none → r p.2 ≠ none) (hc : ∀ p ∈ ch, p.1 = i → r p.2 ≠ none) : ∀ p ∈ ch, Kq.upd r i v p.1 ≠ none → Kq.upd r i v p.2 ≠ none := fun p hp h => by
  by_cases e : p.1 = i
  · exact upd_some (hc p hp e)
  · rw [upd_ne _ _ e] at h
    exact upd_some (hb p hp h)
theorem HvC.updL (h : HvC base ad V st ch r w) (i : Nat) (v : Value) (hi : i ≠ st) (hc : ∀ p ∈ ch, p.1 = i → r p.2 ≠ none) : HvC base ad V st ch (Kq.upd r i v) w := by
  have e1 : Kq.upd r i v st = r st := upd_ne _ _ (fun e => hi e.symm)
  exact ⟨by rw [e1]; exact h.b0, by rw [e1]; exact h.b1, chain_upd h.bl hc⟩
theorem HvC.upd (h : HvC base ad V st ch r w) (i : Nat) (v : Value) (hi : i ≠ st) (hc : ∀ p ∈ ch, p.1 ≠ i) : HvC base ad V st ch (Kq.upd r i v) w :=
  h.updL i v hi fun p hp e => absurd e (hc p hp)
theorem HvC.store (h : HvC base ad V st ch r w) (v : Value) (hr : r st = none) (hc : ∀ p ∈ ch, p.1 = st → r p.2 ≠ none) : HvC base ad V st ch (Kq.upd r st v) (w.setCell ad V) :=
  ⟨fun e => (by rw [upd_same] at e; cases e), fun _ => ⟨w, h.b0 hr, rfl⟩, chain_upd h.bl hc⟩
end
end Go.Kq
