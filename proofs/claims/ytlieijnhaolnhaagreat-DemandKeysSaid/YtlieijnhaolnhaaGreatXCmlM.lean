/- cmp.Compare of integers, cmp.Or: contracts. · cmp.Or of integers. · Chapter 13: the order of pipes; rising: walks. · cmp.Compare of int64. -/
import Derived.Test.YtlieijnhaolnhaaGreatProg
import Derived.KernelRfl
import Derived.StillTailTactics
import Derived.Sort.Grow
import Derived.Test.YtlieijnhaolnhaaGreatXLibMakeM
namespace Go.Proofs.YtlieijnhaolnhaaGreat
open Go.RowKit Go.Kq

def cmpI (x y : Int) : Int := if x < y then -1 else if y < x then 1 else 0
def orL : List Int → Int
  | [] => 0
  | x :: l => if x = 0 then orL l else x
theorem isNaNI (x : Int) (w : World) : Calls Tryz.prog 94 #[.int .i64 x] w fun e w' => e = .returned (.bool false) ∧ w' = w := by
  go_enter Tryz.func94, Tryz.ntmps94
  go_wp2
  go_ret
  exact ⟨ret_bool (by simp), rfl⟩
set_option maxHeartbeats 1000000 in
theorem cmpI_any (x y : Int) (w : World) : Calls Tryz.prog 55 #[.int .i64 x, .int .i64 y] w fun e w' => e = .returned (.int .i64 (cmpI x y)) ∧ w' = w := by
  go_enter Tryz.func55, Tryz.ntmps55
  go_wp2_with (go_at_call 94; refine (isNaNI _ _).mono ?_; rintro e w' ⟨rfl, rfl⟩)
  all_goals
    go_ret
    refine ⟨ret_i64 ?_, rfl⟩
    unfold cmpI
    (repeat' split) <;> first | rfl | (exfalso; omega)
end Go.Proofs.YtlieijnhaolnhaaGreat

namespace Go.Proofs.YtlieijnhaolnhaaGreat
open Go.RowKit Go.Kq
theorem orL_drop : ∀ (xs : List Int) (k : Nat), (∀ j x, j < k → xs[j]? = some x → x = 0) → orL xs = orL (xs.drop k)
  | [], k, _ => by simp
  | x :: xs, 0, _ => rfl
  | x :: xs, k + 1, h => by
    have h0 := h 0 x (by omega) rfl
    rw [List.drop_succ_cons, ← orL_drop xs k fun j y hj hy => h (j + 1) y (by omega) (by simpa using hy)]
    simp [orL, h0]
set_option maxHeartbeats 1000000 in
theorem or_any (A : Option Addr) (n cap : Nat) (xs : List Int) (w : World) (hx : RdI .i64 w A n xs) (hn : n ≤ 1000000) :
    Calls Tryz.prog 53 #[.slice A n cap] w fun e w' => e = .returned (.int .i64 (orL xs)) ∧ w' = w := by
  have hl := hx.1
  go_enter Tryz.func53, Tryz.ntmps53
  go_wp2_with fail
  go_loop [8] (fun i => ∃ k : Nat, k ≤ n ∧ i = .int .i64 k ∧ ∀ j x, j < k → xs[j]? = some x → x = 0) (fun i => n - (intOf i).toNat)
  case atStart => exact ⟨0, by omega, rfl, fun j x h => by omega⟩
  case round =>
    obtain ⟨k, hk, rfl, hz⟩ := hrel
    have HZ := Lib.hid hz
    clear hz
    by_cases hlt : k < n
    · obtain ⟨x, hxk⟩ : ∃ x, xs[k]? = some x := ⟨_, List.getElem?_eq_getElem (by omega)⟩
      obtain ⟨b, o, rfl, hb, c0⟩ := hx.2 k x hxk
      have HX := Lib.hid hxk
      clear hxk
      by_cases h0 : x = 0
      · subst h0
        go_wp2
        go_round
        case rel =>
          refine ⟨k + 1, by omega, by go_num, fun j y hj hy => ?_⟩
          by_cases e : j = k
          · subst e
            have := HX.out
            rw [hy] at this
            cases this
            rfl
          · exact HZ.out j y (by omega) hy
        case measure => simp [intOf]; omega
      · have hne : (x == 0) = false := by rw [beq_eq_false_iff_ne]; exact h0
        go_wp2
        go_ret
        refine ⟨ret_i64 ?_, rfl⟩
        rw [orL_drop xs k HZ.out, List.drop_eq_getElem_cons (by omega)]
        have := HX.out
        rw [List.getElem?_eq_getElem (by omega)] at this
        simp at this
        simp [orL, this, h0]
    · go_wp2
      go_ret
      refine ⟨ret_i64 ?_, rfl⟩
      rw [orL_drop xs k HZ.out, List.drop_of_length_le (by omega)]
      rfl
end Go.Proofs.YtlieijnhaolnhaaGreat

namespace Go.Proofs.YtlieijnhaolnhaaGreat
open Go.RowKit Go.Kq

abbrev Pp := Int × Int
def ep (p : Pp) : Value := .agg #[.int .i64 p.1, .int .i64 p.2]
def pcells (p : Pp) : List Value := [.int .i64 p.1, .int .i64 p.2]
theorem pcells_len (p : Pp) : (pcells p).length = 2 := rfl
def cmpP (a b : Pp) : Int := orL [cmpI a.1 b.1, cmpI a.2 b.2]
def pltB (a b : Pp) : Bool := decide (a.1 < b.1 ∨ (a.1 = b.1 ∧ a.2 < b.2))
theorem cmpI_cases (x y : Int) : (cmpI x y = -1 ∧ x < y) ∨ (cmpI x y = 0 ∧ x = y) ∨ (cmpI x y = 1 ∧ y < x) := by
  unfold cmpI
  (repeat' split) <;> omega
theorem cmpP_neg (a b : Pp) : (decide (0 ≤ cmpP a b)) = !pltB a b := by
  rw [Bool.eq_iff_iff]
  unfold pltB cmpP
  simp only [Bool.not_eq_true', decide_eq_false_iff_not, orL]
  rcases cmpI_cases a.1 b.1 with ⟨h, h1⟩ | ⟨h, h1⟩ | ⟨h, h1⟩ <;> rcases cmpI_cases a.2 b.2 with ⟨k, k1⟩ | ⟨k, k1⟩ | ⟨k, k1⟩ <;> rw [h, k] <;> simp <;> omega
theorem rdi2 (w : World) (x y : Int) : RdI .i64 (w.alloc (.cells #[.int .i64 x, .int .i64 y] 3)) (some ⟨w.heap.size, 0, none⟩) 2 [x, y] := by
  refine ⟨rfl, fun i u hu => ?_⟩
  match i, hu with
  | 0, hu => simp at hu; subst hu; exact ⟨_, _, rfl, by simp, by go_simp⟩
  | 1, hu => simp at hu; subst hu; exact ⟨_, _, rfl, by simp, by go_simp⟩
  | n + 2, hu => simp at hu
set_option maxHeartbeats 2000000 in
set_option maxRecDepth 100000 in
theorem order_any (a b : Pp) (w : World) : Calls Tryz.prog 84 #[ep a, ep b] w fun e w' => e = .returned (.int .i64 (cmpP a b)) ∧ ∃ q os, w' = Sort.grow (w.drewN q) os := by
  obtain ⟨a1, a2⟩ := a
  obtain ⟨b1, b2⟩ := b
  simp only [ep, cmpP]
  go_enter Tryz.func84, Tryz.ntmps84
  go_wp2_with fail
  generalize hg : (w.alloc (.cells #[.int .i64 a1, .int .i64 a2] 51)).alloc (.cells #[.int .i64 b1, .int .i64 b2] 51) = w1
  have HG := Lib.hid hg
  have x0 : w1.cell? ⟨w.heap.size, 0, none⟩ = some (.int .i64 a1) := by rw [← hg]; clear hg HG; go_simp
  have x1 : w1.cell? ⟨w.heap.size, 1, none⟩ = some (.int .i64 a2) := by rw [← hg]; clear hg HG; go_simp
  have y0 : w1.cell? ⟨w.heap.size + 1, 0, none⟩ = some (.int .i64 b1) := by rw [← hg]; clear hg HG; go_simp
  have y1 : w1.cell? ⟨w.heap.size + 1, 1, none⟩ = some (.int .i64 b2) := by rw [← hg]; clear hg HG; go_simp
  clear hg
  refine wp_region_still_tail 10 (by kernel_rfl) (by kernel_rfl) ?_
  simp only [List.take_succ_cons, List.take_zero, List.drop_succ_cons, List.drop_zero]
  repeat (first | still_step | still_call (cmpI_any _ _ _))
  refine wpStill_nil ?_
  change wpList _ _ _ _ _ w1.drew
  have hw1 : ∃ q os, w1.drew = Sort.grow (w.drewN q) os := ⟨1, _, by rw [← HG.out, Sort.alloc_eq_grow, Sort.alloc_eq_grow, Sort.grow_grow]; rfl⟩
  have HW := Lib.hid hw1
  clear hw1 x0 x1 y0 y1 HG
  generalize w1.drew = w2 at HW ⊢
  go_wp2_with (go_at_call 53; refine (or_any _ 2 2 _ _ (rdi2 _ _ _) (by omega)).mono ?_; rintro e w' ⟨rfl, rfl⟩)
  go_ret
  obtain ⟨q, os, h⟩ := HW.out
  exact ⟨rfl, q, _, by rw [Sort.alloc_eq_grow, h, Sort.grow_grow]⟩
/-- Pipes are ascending. -/
def risB : List Pp → Bool
  | a :: b :: l => pltB a b && risB (b :: l)
  | _ => true
theorem risB_no : ∀ (l : List Pp) (k : Nat) (a b : Pp), l[k]? = some a → l[k + 1]? = some b → pltB a b = false → risB l = false
  | [], k, a, b, h, _, _ => by simp at h
  | [x], k, a, b, _, h, _ => by simp at h
  | x :: y :: l, 0, a, b, h1, h2, h => by
    simp at h1 h2
    subst h1 h2
    simp [risB, h]
  | x :: y :: l, k + 1, a, b, h1, h2, h => by
    have := risB_no (y :: l) k a b (by simpa using h1) (by simpa using h2) h
    simp [risB, this]
theorem risB_yes : ∀ (l : List Pp), (∀ (k : Nat) (a b : Pp), l[k]? = some a → l[k + 1]? = some b → pltB a b = true) → risB l = true
  | [], _ => rfl
  | [x], _ => rfl
  | x :: y :: l, h => by
    have h0 := h 0 x y rfl rfl
    have := risB_yes (y :: l) fun k a b h1 h2 => h (k + 1) a b (by simpa using h1) (by simpa using h2)
    simp [risB, h0, this]
theorem kp_grow {w w' : World} (h : ∃ q os, w' = Sort.grow (w.drewN q) os) : Kp No w w' := by
  obtain ⟨q, os, rfl⟩ := h
  refine ⟨rfl, rfl, rfl, by simp, fun k hk _ => ?_⟩
  have : k < (w.drewN q).heap.size := hk
  rw [Sort.heap_grow_old _ _ this]
  rfl
set_option maxHeartbeats 2000000 in
set_option maxRecDepth 100000 in
theorem rising_any (A : Option Addr) (n cap : Nat) (ps : List Pp) (w : World) (hx : Rd pcells 2 w A n ps) (hn : n ≤ 1000000) :
    Calls Tryz.prog 38 #[.slice A n cap] w fun e w' => e = .returned (.bool (risB ps)) ∧ Kp No w w' := by
  have hl := hx.1
  go_enter Tryz.func38, Tryz.ntmps38
  go_wp2_with fail
  go_loopw [3] (fun i wr => ∃ k : Nat, 1 ≤ k ∧ (k ≤ n ∨ k = 1) ∧ i = .int .i64 k ∧ (∀ (j : Nat) (a b : Pp), j + 1 < k → ps[j]? = some a → ps[j + 1]? = some b → pltB a b = true) ∧ Kp No w wr) (fun i _ => n + 1 - (intOf i).toNat)
  case atStart => exact ⟨1, by omega, by omega, rfl, fun j a b h => by omega, Kp.refl _ _⟩
  case round =>
    obtain ⟨k, hk1, hk, rfl, hz, hkp⟩ := hrel
    have HZ := Lib.hid hz
    have HK := Lib.hid hkp
    clear hz hkp
    by_cases hlt : k < n
    · obtain ⟨a, ha⟩ : ∃ x, ps[k - 1]? = some x := ⟨_, List.getElem?_eq_getElem (by omega)⟩
      obtain ⟨b, hb⟩ : ∃ x, ps[k]? = some x := ⟨_, List.getElem?_eq_getElem (by omega)⟩
      obtain ⟨j, rfl⟩ : ∃ j, k = j + 1 := ⟨k - 1, by omega⟩
      rw [Nat.add_sub_cancel] at ha
      obtain ⟨g, o, rfl, hg, hc⟩ := hx.2 j a ha
      obtain ⟨g', o', he, _, hd⟩ := hx.2 (j + 1) b hb
      cases he
      have c0 := HK.out.cell (hc 0 _ rfl) (fun h => h)
      have c1 := HK.out.cell (hc 1 _ rfl) (fun h => h)
      have d0 := HK.out.cell (hd 0 _ rfl) (fun h => h)
      have d1 := HK.out.cell (hd 1 _ rfl) (fun h => h)
      have HA := Lib.hid (And.intro ha hb)
      clear ha hb hc hd
      obtain ⟨a1, a2⟩ := a
      obtain ⟨b1, b2⟩ := b
      have OA := Lib.hid (fun w0 => order_any (a1, a2) (b1, b2) w0)
      have hcm := cmpP_neg (a1, a2) (b1, b2)
      simp only [ep] at OA
      generalize cmpP (a1, a2) (b1, b2) = c at OA hcm
      simp only [Nat.add_zero] at c0 d0
      have hj0 : (0 : Int) ≤ (j : Int) := by omega
      have hj1 : (0 : Int) ≤ (j : Int) + 1 := by omega
      have hjn : (j : Int) + 1 < (n : Int) := by omega
      have hjm : (j : Int) < (n : Int) := by omega
      have ht : ((j : Int) + 1).toNat = j + 1 := by omega
      have w0 : IntKind.i64.wrap (j : Int) = (j : Int) := by rw [IntKind.wrap_i64]; omega
      have w1 : IntKind.i64.wrap ((j : Int) + 1) = (j : Int) + 1 := by rw [IntKind.wrap_i64]; omega
      have w2 : IntKind.i64.wrap ((j : Int) + 1 + 1) = (j : Int) + 1 + 1 := by rw [IntKind.wrap_i64]; omega
      by_cases hd : 0 ≤ c
      · have hb : pltB (a1, a2) (b1, b2) = false := by rw [decide_eq_true hd] at hcm; simpa using hcm.symm
        have HB := Lib.hid hb
        clear hb hcm
        go_wp2_with fail
        refine wp_region_still_tail 9 (by kernel_rfl) (by kernel_rfl) ?_
        simp only [List.take_succ_cons, List.take_zero, List.drop_succ_cons, List.drop_zero]
        repeat still_step
        refine wpStill_nil ?_
        change wpList _ _ _ _ _ wr.drew
        go_wp2_with (go_at_call 84; refine (OA.out _).mono ?_; rintro e w' ⟨rfl, hg'⟩; have KG := Lib.hid (kp_grow hg'); clear hg')
        go_ret
        exact ⟨ret_bool (risB_no ps j _ _ HA.out.1 HA.out.2 HB.out).symm, HK.out.tr ((Kp.drew _ _).tr KG.out)⟩
      · have hb : pltB (a1, a2) (b1, b2) = true := by rw [decide_eq_false hd] at hcm; simpa using hcm.symm
        have HB := Lib.hid hb
        clear hb hcm
        go_wp2_with fail
        refine wp_region_still_tail 9 (by kernel_rfl) (by kernel_rfl) ?_
        simp only [List.take_succ_cons, List.take_zero, List.drop_succ_cons, List.drop_zero]
        repeat still_step
        refine wpStill_nil ?_
        change wpList _ _ _ _ _ wr.drew
        go_wp2_with (go_at_call 84; refine (OA.out _).mono ?_; rintro e w' ⟨rfl, hg'⟩; have KG := Lib.hid (kp_grow hg'); clear hg')
        go_roundw
        case rel =>
          refine ⟨j + 1 + 1, by omega, by omega, by go_num, fun i a b hi h1 h2 => ?_, HK.out.tr ((Kp.drew _ _).tr KG.out)⟩
          by_cases e : i = j
          · subst e
            have := HA.out
            rw [h1, h2] at this
            obtain ⟨e1, e2⟩ := this
            cases e1
            cases e2
            exact HB.out
          · exact HZ.out i a b (by omega) h1 h2
        case measure => simp [intOf]; omega
    · go_wp2
      go_ret
      refine ⟨ret_bool (risB_yes ps fun i a b h1 h2 => HZ.out i a b ?_ h1 h2).symm, HK.out⟩
      have := (List.getElem?_eq_some_iff.1 h2).1
      omega
end Go.Proofs.YtlieijnhaolnhaaGreat

namespace Go.Proofs.YtlieijnhaolnhaaGreat
open Go.RowKit Go.Kq
theorem isNaNL (x : Int) (w : World) : Calls Tryz.prog 93 #[.int .i64 x] w fun e w' => e = .returned (.bool false) ∧ w' = w := by
  go_enter Tryz.func93, Tryz.ntmps93
  go_wp2
  go_ret
  exact ⟨ret_bool (by simp), rfl⟩
set_option maxHeartbeats 1000000 in
theorem cmpL_any (x y : Int) (w : World) : Calls Tryz.prog 54 #[.int .i64 x, .int .i64 y] w fun e w' => e = .returned (.int .i64 (cmpI x y)) ∧ w' = w := by
  go_enter Tryz.func54, Tryz.ntmps54
  go_wp2_with (go_at_call 93; refine (isNaNL _ _).mono ?_; rintro e w' ⟨rfl, rfl⟩)
  all_goals
    go_ret
    refine ⟨ret_i64 ?_, rfl⟩
    unfold cmpI
    (repeat' split) <;> first | rfl | (exfalso; omega)
end Go.Proofs.YtlieijnhaolnhaaGreat
