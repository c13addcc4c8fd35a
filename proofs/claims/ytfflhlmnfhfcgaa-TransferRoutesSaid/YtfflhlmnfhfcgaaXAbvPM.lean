/- Chapter 33: cmp.Compare, cmp.Or, and the order of keys. · Chapter 33: what is above 0, in order: plain. -/
import Derived.StillTailTactics
import Derived.Sort.Grow
import Derived.Test.YtfflhlmnfhfcgaaXBaseM
import Derived.Test.YtfflhlmnfhfcgaaXLibRow
import Derived.Test.YtfflhlmnfhfcgaaXRfPl
namespace Go.Proofs.Ytfflhlmnfhfcgaa
open Go.RowKit Go.Kq

def cmpI (x y : Int) : Int := if x < y then -1 else if y < x then 1 else 0
def orL : List Int → Int
  | [] => 0
  | x :: l => if x = 0 then orL l else x
theorem isNaN_any (x : Int) (w : World) : Calls Try.prog 87 #[.int .i64 x] w fun e w' => e = .returned (.bool false) ∧ w' = w := by
  go_enter Try.func87, Try.ntmps87
  go_wp2
  go_ret
  exact ⟨ret_bool (by simp), rfl⟩
set_option maxHeartbeats 1000000 in
theorem cmp_any (x y : Int) (w : World) : Calls Try.prog 73 #[.int .i64 x, .int .i64 y] w fun e w' => e = .returned (.int .i64 (cmpI x y)) ∧ w' = w := by
  go_enter Try.func73, Try.ntmps73
  go_wp2_with (go_at_call 87; refine (isNaN_any _ _).mono ?_; rintro e w' ⟨rfl, rfl⟩)
  all_goals
    go_ret
    refine ⟨ret_i64 ?_, rfl⟩
    unfold cmpI
    (repeat' split) <;> first | rfl | (exfalso; omega)
theorem orL_drop : ∀ (xs : List Int) (k : Nat), (∀ j x, j < k → xs[j]? = some x → x = 0) → orL xs = orL (xs.drop k)
  | [], k, _ => by simp
  | x :: xs, 0, _ => rfl
  | x :: xs, k + 1, h => by
    have h0 := h 0 x (by omega) rfl
    rw [List.drop_succ_cons, ← orL_drop xs k fun j y hj hy => h (j + 1) y (by omega) (by simpa using hy)]
    simp [orL, h0]
set_option maxHeartbeats 1000000 in
theorem or_any (A : Option Addr) (n cap : Nat) (xs : List Int) (w : World) (hx : Go.Kq.RdI .i64 w A n xs) (hn : n ≤ 1000000) :
    Calls Try.prog 72 #[.slice A n cap] w fun e w' => e = .returned (.int .i64 (orL xs)) ∧ w' = w := by
  have hl := hx.1
  go_enter Try.func72, Try.ntmps72
  go_wp2_with fail
  go_loop [8] (fun i => ∃ k : Nat, k ≤ n ∧ i = .int .i64 k ∧ ∀ j x, j < k → xs[j]? = some x → x = 0) (fun i => n - (intOf i).toNat)
  case atStart => exact ⟨0, by omega, rfl, fun j x h => by omega⟩
  case round =>
    obtain ⟨k, hk, rfl, hz⟩ := hrel
    have HZ := Lib.hid hz
    clear hz
    by_cases hlt : k < n
    · obtain ⟨x, hxk⟩ : ∃ x, xs[k]? = some x := ⟨_, List.getElem?_eq_getElem (by omega)⟩
      obtain ⟨b, o, rfl, hb, c0⟩ := hx.2 k x hxk
      have HX := Lib.hid hxk
      clear hxk
      by_cases h0 : x = 0
      · subst h0
        go_wp2
        go_round
        case rel =>
          refine ⟨k + 1, by omega, by go_num, fun j y hj hy => ?_⟩
          by_cases e : j = k
          · subst e
            have := HX.out
            rw [hy] at this
            cases this
            rfl
          · exact HZ.out j y (by omega) hy
        case measure => simp [intOf]; omega
      · have hne : (x == 0) = false := by rw [beq_eq_false_iff_ne]; exact h0
        go_wp2
        go_ret
        refine ⟨ret_i64 ?_, rfl⟩
        rw [orL_drop xs k HZ.out, List.drop_eq_getElem_cons (by omega)]
        have := HX.out
        rw [List.getElem?_eq_getElem (by omega)] at this
        simp at this
        simp [orL, this, h0]
    · go_wp2
      go_ret
      refine ⟨ret_i64 ?_, rfl⟩
      rw [orL_drop xs k HZ.out, List.drop_of_length_le (by omega)]
      rfl
def cmpK (a b : Key) : Int := orL [cmpI a.1 b.1, cmpI a.2.1 b.2.1, cmpI a.2.2 b.2.2]
theorem rdi3 (w : World) (x y z : Int) : Go.Kq.RdI .i64 (w.alloc (.cells #[.int .i64 x, .int .i64 y, .int .i64 z] 3)) (some ⟨w.heap.size, 0, none⟩) 3 [x, y, z] := by
  refine ⟨rfl, fun i u hu => ?_⟩
  match i, hu with
  | 0, hu => simp at hu; subst hu; exact ⟨_, _, rfl, by simp, by go_simp⟩
  | 1, hu => simp at hu; subst hu; exact ⟨_, _, rfl, by simp, by go_simp⟩
  | 2, hu => simp at hu; subst hu; exact ⟨_, _, rfl, by simp, by go_simp⟩
  | n + 3, hu => simp at hu
set_option maxHeartbeats 2000000 in
set_option maxRecDepth 100000 in
theorem compare_any (a b : Key) (w : World) : Calls Try.prog 59 #[ek a, ek b] w fun e w' => e = .returned (.int .i64 (cmpK a b)) ∧ ∃ q os, w' = Sort.grow (w.drewN q) os := by
  obtain ⟨a1, a2, a3⟩ := a
  obtain ⟨b1, b2, b3⟩ := b
  simp only [ek, cmpK]
  go_enter Try.func59, Try.ntmps59
  go_wp2_with fail
  generalize hg : (w.alloc (.cells #[.int .i64 a1, .int .i64 a2, .int .i64 a3] 92)).alloc (.cells #[.int .i64 b1, .int .i64 b2, .int .i64 b3] 92) = w1
  have HG := Lib.hid hg
  have x0 : w1.cell? ⟨w.heap.size, 0, none⟩ = some (.int .i64 a1) := by rw [← hg]; clear hg HG; go_simp
  have x1 : w1.cell? ⟨w.heap.size, 1, none⟩ = some (.int .i64 a2) := by rw [← hg]; clear hg HG; go_simp
  have x2 : w1.cell? ⟨w.heap.size, 2, none⟩ = some (.int .i64 a3) := by rw [← hg]; clear hg HG; go_simp
  have y0 : w1.cell? ⟨w.heap.size + 1, 0, none⟩ = some (.int .i64 b1) := by rw [← hg]; clear hg HG; go_simp
  have y1 : w1.cell? ⟨w.heap.size + 1, 1, none⟩ = some (.int .i64 b2) := by rw [← hg]; clear hg HG; go_simp
  have y2 : w1.cell? ⟨w.heap.size + 1, 2, none⟩ = some (.int .i64 b3) := by rw [← hg]; clear hg HG; go_simp
  clear hg
  refine wp_region_still_tail 15 (by kernel_rfl) (by kernel_rfl) ?_
  simp only [List.take_succ_cons, List.take_zero, List.drop_succ_cons, List.drop_zero]
  repeat (first | still_step | still_call (cmp_any _ _ _))
  refine wpStill_nil ?_
  change wpList _ _ _ _ _ w1.drew
  have hw1 : ∃ q os, w1.drew = Sort.grow (w.drewN q) os := ⟨1, _, by rw [← HG.out, Sort.alloc_eq_grow, Sort.alloc_eq_grow, Sort.grow_grow]; rfl⟩
  have HW := Lib.hid hw1
  clear hw1 x0 x1 x2 y0 y1 y2 HG
  generalize w1.drew = w2 at HW ⊢
  go_wp2_with (go_at_call 72; refine (or_any _ 3 3 _ _ (rdi3 _ _ _ _) (by omega)).mono ?_; rintro e w' ⟨rfl, rfl⟩)
  go_ret
  obtain ⟨q, os, h⟩ := HW.out
  exact ⟨rfl, q, _, by rw [Sort.alloc_eq_grow, h, Sort.grow_grow]⟩
end Go.Proofs.Ytfflhlmnfhfcgaa

namespace Go.Proofs.Ytfflhlmnfhfcgaa
open Go.RowKit Go.Kq

def klt (a b : Key) : Prop := a.1 < b.1 ∨ (a.1 = b.1 ∧ (a.2.1 < b.2.1 ∨ (a.2.1 = b.2.1 ∧ a.2.2 < b.2.2)))
instance (a b : Key) : Decidable (klt a b) := by unfold klt; infer_instance
theorem cmpK_neg (a b : Key) : cmpK a b < 0 ↔ klt a b := by
  unfold cmpK klt
  simp only [orL]
  unfold cmpI
  (repeat' split) <;> omega
theorem klt_irr (a : Key) : ¬ klt a a := by unfold klt; omega
theorem klt_trans {a b c : Key} (h1 : klt a b) (h2 : klt b c) : klt a c := by unfold klt at *; omega
theorem klt_total {a b : Key} (h1 : ¬ klt a b) (h2 : ¬ klt b a) : a = b := by
  obtain ⟨a1, a2, a3⟩ := a
  obtain ⟨b1, b2, b3⟩ := b
  unfold klt at h1 h2
  simp only at h1 h2
  rw [show a1 = b1 by omega, show a2 = b2 by omega, show a3 = b3 by omega]
def cellK (g : Key → Int) (k : Key) : Vc := ⟨k.1, k.2.1, k.2.2, g k⟩
theorem cellK_key (g : Key → Int) (k : Key) : (cellK g k).key = k := rfl
/-- What is above 0 of keys in order. -/
def abv (g : Key → Int) (ks : List Key) : List Vc := (ks.filter fun k => decide (0 < g k)).map (cellK g)
theorem abv_snoc (g : Key → Int) (ks : List Key) (k : Key) : abv g (ks ++ [k]) = abv g ks ++ if 0 < g k then [cellK g k] else [] := by
  unfold abv
  rw [List.filter_append, List.map_append]
  by_cases h : 0 < g k <;> simp [h]
theorem srt_pair : ∀ l, Srt l → l.Pairwise Bef
  | [], _ => List.Pairwise.nil
  | _ :: l, h => List.Pairwise.cons h.1 (srt_pair l h.2)
theorem bef_irr (a : Vc) : ¬ Bef a a := by unfold Bef; omega
theorem bef_ext {l m : List Vc} (hl : l.Pairwise Bef) (hm : m.Pairwise Bef) (h : ∀ v, v ∈ l ↔ v ∈ m) : l = m := by
  have nd : ∀ {l : List Vc}, l.Pairwise Bef → l.Nodup := fun {l} h => show l.Pairwise (fun a b => a ≠ b) from h.imp fun {a b} (h : Bef a b) (e : a = b) => bef_irr a (by rw [← e] at h; exact h)
  refine List.Perm.eq_of_pairwise (le := Bef) ?_ hl hm ((List.perm_ext_iff_of_nodup (nd hl) (nd hm)).2 h)
  intro a b _ _ h1 h2
  exact absurd (bef_trans h1 h2) (bef_irr a)
theorem bal_pos_mem {E : List (Key × Int)} {k : Key} (h : 0 < bal E k) : k ∈ keys E := by
  refine Classical.byContradiction fun hn => ?_
  have := (get1_none_iff E k).2 hn
  simp [bal, this] at h
theorem abv_eq {xs ys : List Vc} {ks : List Key} (hp : ks.Perm (keys (btw xs ys))) (hs : ks.Pairwise klt) : abv (bal (btw xs ys)) ks = (dif xs ys).filter fun v => decide (0 < v.q) := by
  have hS : Srt (dif xs ys) := addL_srt _ _ (addL_srt _ _ trivial)
  refine bef_ext ?_ ((srt_pair _ hS).filter _) fun v => ?_
  · unfold abv
    refine List.pairwise_map.2 ((hs.filter _).imp fun {a b} h => ?_)
    exact h
  · unfold abv
    rw [List.mem_map, List.mem_filter]
    constructor
    · rintro ⟨k, hk, rfl⟩
      rw [List.mem_filter] at hk
      have hk2 : 0 < bal (btw xs ys) k := of_decide_eq_true hk.2
      have h1 : k ∈ keys (asE (dif xs ys)) := bal_pos_mem (by rw [bal_dif]; exact hk2)
      rw [keys_asE] at h1
      obtain ⟨u, hu, rfl⟩ := List.mem_map.1 h1
      have hq := bal_at _ hS u hu
      rw [bal_dif] at hq
      have : cellK (bal (btw xs ys)) u.key = u := by
        unfold cellK
        rw [hq]
        rfl
      rw [this]
      exact ⟨hu, decide_eq_true (by rw [← hq]; exact hk2)⟩
    · rintro ⟨hu, hq⟩
      have hq' : 0 < v.q := of_decide_eq_true hq
      have he := bal_at _ hS v hu
      rw [bal_dif] at he
      refine ⟨v.key, List.mem_filter.2 ⟨?_, decide_eq_true (by rw [he]; exact hq')⟩, ?_⟩
      · exact hp.mem_iff.2 (bal_pos_mem (by rw [he]; exact hq'))
      · unfold cellK
        rw [he]
        rfl
end Go.Proofs.Ytfflhlmnfhfcgaa
