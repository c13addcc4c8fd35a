/- Chapter 33: rows of voices; the walk of 'chosen'. · Chapter 33: the examples; the walk of awake. -/
import Derived.Test.YtfflhlmnfhfcgaaXLwM
namespace Go.Proofs.Ytfflhlmnfhfcgaa
open Go.RowKit Go.Kq

def Vc.cells4 (v : Vc) : List Value := [.int .i64 v.d, .int .i64 v.p, .int .i64 v.f, .int .i64 v.q]
def flat : List Vc → List Value
  | [] => []
  | v :: vs => .int .i64 v.d :: .int .i64 v.p :: .int .i64 v.f :: .int .i64 v.q :: flat vs
theorem flat_len : ∀ vs, (flat vs).length = vs.length * 4
  | [] => rfl
  | v :: vs => by
    simp only [flat, List.length_cons, flat_len vs]
    omega
theorem flat_snoc (v : Vc) : ∀ vs, flat (vs ++ [v]) = flat vs ++ v.cells4
  | [] => rfl
  | u :: vs => by
    simp only [List.cons_append, flat, flat_snoc v vs]
theorem flat_at : ∀ (vs : List Vc) (i : Nat) (v : Vc), vs[i]? = some v → (flat vs)[i * 4]? = some (.int .i64 v.d) ∧ (flat vs)[i * 4 + 1]? = some (.int .i64 v.p) ∧ (flat vs)[i * 4 + 2]? = some (.int .i64 v.f) ∧ (flat vs)[i * 4 + 3]? = some (.int .i64 v.q)
  | [], i, v, h => by simp at h
  | u :: vs, 0, v, h => by
    simp at h
    subst h
    exact ⟨rfl, rfl, rfl, rfl⟩
  | u :: vs, i + 1, v, h => by
    have := flat_at vs i v (by simpa using h)
    rw [show (i + 1) * 4 = i * 4 + 1 + 1 + 1 + 1 by omega]
    exact this
theorem flat_one (vs : List Vc) : ∀ u ∈ flat vs, u.oneCell' = true := by
  induction vs with
  | nil => intro u hu; cases hu
  | cons v vs ih =>
    intro u hu
    simp only [flat, List.mem_cons] at hu
    rcases hu with rfl | rfl | rfl | rfl | hu
    · rfl
    · rfl
    · rfl
    · rfl
    · exact ih u hu
theorem own_rdv {w : World} {base : Nat} {v : Value} {vs : List Vc} {n : Nat} (h : w.ownsRow base 38 4 v n (flat vs)) : ∃ a cap, v = .slice a n cap ∧ n ≤ cap ∧ RdV w a n vs := by
  have hl := h.1
  rw [flat_len] at hl
  have hn : vs.length = n := by omega
  obtain ⟨a, cap, rfl, h1, h2, h3⟩ := own_form h
  refine ⟨a, cap, rfl, h1, hn, fun i u hu => ?_⟩
  have hi := (List.getElem?_eq_some_iff.1 hu).1
  obtain ⟨g, rfl⟩ := h3 (by omega)
  have hb := (own_ge h (g := g) rfl).2
  obtain ⟨f0, f1, f2, f3⟩ := flat_at vs i u hu
  exact ⟨g, 0, rfl, hb, by rw [Nat.zero_add, h.cellAt _ (by omega), f0], by rw [Nat.zero_add, h.cellAt _ (by omega), f1], by rw [Nat.zero_add, h.cellAt _ (by omega), f2], by rw [Nat.zero_add, h.cellAt _ (by omega), f3]⟩
theorem info38 : (Try.prog.info? 38).map (fun i => (i.zero, i.size, i.bytes)) = some (some (.agg #[.int .i64 0, .int .i64 0, .int .i64 0, .int .i64 0]), 4, 32) := by kernel_rfl
theorem new4 (w : World) (v : Vc) : ∀ j u, v.cells4[j]? = some u → (w.alloc (.cells #[.int .i64 v.d, .int .i64 v.p, .int .i64 v.f, .int .i64 v.q] 38)).cell? ((⟨w.heap.size, 0, none⟩ : Addr).add j) = some u := by
  intro j u hj
  unfold Vc.cells4 at hj
  rw [show ((⟨w.heap.size, 0, none⟩ : Addr).add j) = ⟨w.heap.size, j, none⟩ by unfold Addr.add; split <;> simp_all]
  match j, hj with
  | 0, hj => simp at hj; subst hj; go_simp
  | 1, hj => simp at hj; subst hj; go_simp
  | 2, hj => simp at hj; subst hj; go_simp
  | 3, hj => simp at hj; subst hj; go_simp
theorem cells4_one (v : Vc) : ∀ u ∈ v.cells4, u.oneCell' = true := by
  intro u hu
  simp only [Vc.cells4, List.mem_cons, List.not_mem_nil, or_false] at hu
  rcases hu with rfl | rfl | rfl | rfl <;> rfl
theorem flat_take (vs : List Vc) (k : Nat) (v : Vc) (h : vs[k]? = some v) : flat (vs.take k) ++ v.cells4 = flat (vs.take (k + 1)) := by
  rw [List.take_add_one, h]
  exact (flat_snoc v _).symm

set_option maxHeartbeats 2000000 in
theorem chosen_any (A B : Option Addr) (n m ca cb : Nat) (ys vs : List Vc) (out : List Nat) (w : World) (hy : RdV w A n ys) (ho : RdI w B m (out.map Int.ofNat)) (_hn : n ≤ 24) (hm : m ≤ 14) (hvl : vs.length = m)
    (hv : ∀ (k i : Nat), out[k]? = some i → i < n ∧ ys[i]? = vs[k]?) (hasc : ∀ (k i j : Nat), out[k]? = some i → out[k + 1]? = some j → i < j) :
    Calls Try.prog 15 #[.slice A n ca, .slice B m cb] w fun e w' => ∃ v, e = .returned (.tuple #[v, .bool true]) ∧ w'.ownsRow w.heap.size 38 4 v m (flat vs) ∧ Kp No w w' := by
  obtain ⟨i0, hi0, hz0, hz1, hz2⟩ := info_parts info38
  have hol : out.length = m := by simpa using ho.1
  have HV := Lib.hid hv
  have HA := Lib.hid hasc
  clear hv hasc
  go_enter Try.func15, Try.ntmps15
  go_wp2_with fail
  go_loopw [6, 7] (fun s i wr => ∃ k : Nat, k ≤ m ∧ i = .int .i64 k ∧ wr.ownsRow w.heap.size 38 4 s k (flat (vs.take k)) ∧ Kp No w wr) (fun s i _ => m - (intOf i).toNat)
  case atStart => exact ⟨0, by omega, rfl, ⟨rfl, .inl ⟨rfl, rfl⟩⟩, Kp.refl _ _⟩
  case round =>
    obtain ⟨k, hk, rfl, hown, hkp⟩ := hrel
    by_cases hlt : k < m
    · obtain ⟨x, hxk⟩ : ∃ x, out[k]? = some x := ⟨_, List.getElem?_eq_getElem (by omega)⟩
      obtain ⟨v, hvk⟩ : ∃ v, vs[k]? = some v := ⟨_, List.getElem?_eq_getElem (by omega)⟩
      obtain ⟨hxn, hyx⟩ := HV.out k x hxk
      rw [hvk] at hyx
      obtain ⟨b, o, rfl, hb, c0, c1, c2, c3⟩ := (hy.no hkp).2 x v hyx
      have hok := (ho.no hkp).2
      obtain ⟨b', o', rfl, d0⟩ := hok k x (by rw [List.getElem?_map, hxk]; rfl)
      replace d0 : wr.cell? ⟨b', o' + k, none⟩ = some (.int .i64 x) := d0
      have X := Lib.hid hxk
      have VK := Lib.hid hvk
      clear hxk hvk hyx
      have HO := Lib.hid hown
      have HK := Lib.hid hok
      clear hok hown
      have hx0 : decide ((x : Int) < 0) = false := by rw [decide_eq_false_iff_not]; omega
      have hx1 : decide (n ≤ x) = false := by rw [decide_eq_false_iff_not]; omega
      by_cases h0 : k = 0
      · have h0k : decide (0 < k) = false := by rw [decide_eq_false_iff_not]; omega
        clear h0
        go_wp2_with fail
        go_quiet (fail)
        go_wp2_with (at_builtin; refine stop_in ?_)
        refine stop_out ?_
        refine wpList_append_own_at _ rfl _ _ 22 rfl w.heap.size 38 i0 (.agg #[.int .i64 0, .int .i64 0, .int .i64 0, .int .i64 0]) 4 32 Try.underlying22 hi0 hz0 hz1 hz2 rfl (by decide) u6 k (flat (vs.take k)) rfl ((show (wr.drewN nq).ownsRow w.heap.size 38 4 u6 k (flat (vs.take k)) from HO.out).alloc _) ⟨wr.heap.size, 0, none⟩ 1 1 v.cells4 rfl rfl (new4 _ v) (cells4_one v) (by unfold maxLen; omega) (by omega) (by have := hkp.size; simp; omega) ?_
        intro v' w3 hown' hgrow hnil hat
        rw [flat_take vs k v VK.out] at hown'
        have hk3 : Kp No w w3 := (hkp.tr (Kp.drewN _ _ nq)).trans ((Kp.alloc (fun g => w.heap.size ≤ g) _ _).tr (Kp.grown hgrow fun g hg _ => (own_ge HO.out hg).1)) (fun g hg h => absurd h (Nat.not_le.2 hg))
        have HO3 := Lib.hid hown'
        have HK3 := Lib.hid hk3
        clear hown' hgrow hnil hat hk3
        go_wp2_with fail
        go_roundw
        case rel => exact ⟨k + 1, by omega, by go_num, HO3.out, HK3.out⟩
        case measure => simp [intOf]; omega
      · obtain ⟨k', hk'⟩ : ∃ k', k = k' + 1 := ⟨k - 1, by omega⟩
        obtain ⟨y, hyk⟩ : ∃ y, out[k']? = some y := ⟨_, List.getElem?_eq_getElem (by omega)⟩
        obtain ⟨b2, o2, hb2, d1⟩ := HK.out k' y (by rw [List.getElem?_map, hyk]; rfl)
        cases hb2
        replace d1 : wr.cell? ⟨b', o' + k', none⟩ = some (.int .i64 y) := d1
        have hxy : decide (x ≤ y) = false := by
          have := HA.out k' y x hyk (hk' ▸ X.out)
          rw [decide_eq_false_iff_not]
          omega
        have h0k : decide (0 < k) = true := by rw [decide_eq_true_iff]; omega
        have hkk : (k : Int) - 1 = (k' : Int) := by omega
        have hk'l : k' < m := by omega
        clear h0 hk' hyk
        go_wp2_with fail
        go_quiet (fail)
        go_wp2_with (at_builtin; refine stop_in ?_)
        refine stop_out ?_
        refine wpList_append_own_at _ rfl _ _ 22 rfl w.heap.size 38 i0 (.agg #[.int .i64 0, .int .i64 0, .int .i64 0, .int .i64 0]) 4 32 Try.underlying22 hi0 hz0 hz1 hz2 rfl (by decide) u6 k (flat (vs.take k)) rfl ((show (wr.drewN nq).ownsRow w.heap.size 38 4 u6 k (flat (vs.take k)) from HO.out).alloc _) ⟨wr.heap.size, 0, none⟩ 1 1 v.cells4 rfl rfl (new4 _ v) (cells4_one v) (by unfold maxLen; omega) (by omega) (by have := hkp.size; simp; omega) ?_
        intro v' w3 hown' hgrow hnil hat
        rw [flat_take vs k v VK.out] at hown'
        have hk3 : Kp No w w3 := (hkp.tr (Kp.drewN _ _ nq)).trans ((Kp.alloc (fun g => w.heap.size ≤ g) _ _).tr (Kp.grown hgrow fun g hg _ => (own_ge HO.out hg).1)) (fun g hg h => absurd h (Nat.not_le.2 hg))
        have HO3 := Lib.hid hown'
        have HK3 := Lib.hid hk3
        clear hown' hgrow hnil hat hk3
        go_wp2_with fail
        go_roundw
        case rel => exact ⟨k + 1, by omega, by go_num, HO3.out, HK3.out⟩
        case measure => simp [intOf]; omega
    · have HO := Lib.hid hown
      clear hown
      obtain rfl : k = m := by omega
      go_wp2
      refine bodyPost_ret (v := .tuple #[u6, .bool true]) (by simp [results, Try.results15, go_sem]) rfl ⟨_, rfl, ?_, hkp⟩
      have h := HO.out
      rw [List.take_of_length_le (by omega)] at h
      exact h
end Go.Proofs.Ytfflhlmnfhfcgaa

namespace Go.Proofs.Ytfflhlmnfhfcgaa
open Go.RowKit Go.Kq

def wantV : List Vc := [⟨0, 0, 1, 40⟩, ⟨0, 12, 2, 20⟩]
def haveV : List Vc := [⟨0, 0, 2, 40⟩, ⟨0, 12, 2, 25⟩, ⟨1, 0, 1, 40⟩]
theorem best14 : bestV wantV haveV 14 = ([0, 1], 115, 0) := by kernel_rfl
theorem best1 : bestV wantV haveV 1 = ([0], 220, 0) := by kernel_rfl
theorem cost0 : canon (bal (btw wantV haveV)) (keys (btw wantV haveV)) = 395 := by kernel_rfl
theorem chk0 : chk wantV haveV 24 = 0 := by kernel_rfl

set_option maxHeartbeats 1000000 in
theorem want_any (w : World) : Calls Try.prog 28 #[] w fun e w' => ∃ g, e = .returned (.slice (some ⟨g, 0, none⟩) 2 2) ∧ RdV w' (some ⟨g, 0, none⟩) 2 wantV ∧ Kp No w w' := by
  go_enter Try.func28, Try.ntmps28
  go_wp2
  go_ret
  refine ⟨_, rfl, ⟨rfl, fun i v hv => ?_⟩, Kp.alloc _ _ _⟩
  match i, hv with
  | 0, hv => simp [wantV] at hv; subst hv; exact ⟨_, _, rfl, by simp, by go_simp, by go_simp, by go_simp, by go_simp⟩
  | 1, hv => simp [wantV] at hv; subst hv; exact ⟨_, _, rfl, by simp, by go_simp, by go_simp, by go_simp, by go_simp⟩
  | n + 2, hv => simp [wantV] at hv
set_option maxHeartbeats 1000000 in
theorem have_any (w : World) : Calls Try.prog 29 #[] w fun e w' => ∃ g, e = .returned (.slice (some ⟨g, 0, none⟩) 3 3) ∧ RdV w' (some ⟨g, 0, none⟩) 3 haveV ∧ Kp No w w' := by
  go_enter Try.func29, Try.ntmps29
  go_wp2
  go_ret
  refine ⟨_, rfl, ⟨rfl, fun i v hv => ?_⟩, Kp.alloc _ _ _⟩
  match i, hv with
  | 0, hv => simp [haveV] at hv; subst hv; exact ⟨_, _, rfl, by simp, by go_simp, by go_simp, by go_simp, by go_simp⟩
  | 1, hv => simp [haveV] at hv; subst hv; exact ⟨_, _, rfl, by simp, by go_simp, by go_simp, by go_simp, by go_simp⟩
  | 2, hv => simp [haveV] at hv; subst hv; exact ⟨_, _, rfl, by simp, by go_simp, by go_simp, by go_simp, by go_simp⟩
  | n + 3, hv => simp [haveV] at hv
theorem own_rdi {w : World} {base : Nat} {v : Value} {L : List Nat} {n : Nat} (h : w.ownsRow base 3 1 v n (L.map natV)) : ∃ a cap, v = .slice a n cap ∧ n ≤ cap ∧ RdI w a n (L.map Int.ofNat) := by
  have hl := h.1
  simp at hl
  obtain ⟨a, cap, rfl, h1, h2, h3⟩ := own_form h
  refine ⟨a, cap, rfl, h1, by simpa using hl, fun i x hx => ?_⟩
  rw [List.getElem?_map] at hx
  obtain ⟨j, hj, rfl⟩ := Option.map_eq_some_iff.1 hx
  have hi := (List.getElem?_eq_some_iff.1 hj).1
  obtain ⟨g, rfl⟩ := h3 (by omega)
  exact ⟨g, 0, rfl, by rw [Nat.zero_add, h.cellAt _ (by omega), List.getElem?_map, hj]; rfl⟩
theorem rdi_new2 (w : World) (x y : Int) : RdI (w.alloc (.cells #[.int .i64 x, .int .i64 y] 3)) (some ⟨w.heap.size, 0, none⟩) 2 [x, y] := by
  refine ⟨rfl, fun i u hu => ?_⟩
  match i, hu with
  | 0, hu => simp at hu; subst hu; exact ⟨_, _, rfl, by go_simp⟩
  | 1, hu => simp at hu; subst hu; exact ⟨_, _, rfl, by go_simp⟩
  | n + 2, hu => simp at hu
theorem rdi_new1 (w : World) (x : Int) : RdI (w.alloc (.cells #[.int .i64 x] 3)) (some ⟨w.heap.size, 0, none⟩) 1 [x] := by
  refine ⟨rfl, fun i u hu => ?_⟩
  match i, hu with
  | 0, hu => simp at hu; subst hu; exact ⟨_, _, rfl, by go_simp⟩
  | n + 1, hu => simp at hu
set_option maxHeartbeats 2000000 in
theorem awake_any (w : World) : Calls Try.prog 13 #[] w fun e w' => e = .returned (.bool true) ∧ Kp No w w' := by
  go_enter Try.func13, Try.ntmps13
  go_wp2_with fail
  refine (want_any _).mono ?_
  rintro e w1 ⟨g1, rfl, hr1, hk1⟩
  go_wp2_with fail
  refine (have_any _).mono ?_
  rintro e w2 ⟨g2, rfl, hr2, hk2⟩
  go_wp2_with fail
  refine (Best_any _ _ 2 3 2 3 wantV haveV 14 w2 (hr1.no hk2) hr2).mono ?_
  simp only [best14]
  rintro e w3 ⟨v3, rfl, ho3, hk3⟩
  obtain ⟨a3, c3, rfl, hc3, hi3⟩ := own_rdi ho3
  have K3 := Lib.hid (hk1.tr (hk2.tr hk3))
  have I3 := Lib.hid hi3
  clear hr1 hr2 hk1 hk2 hk3 ho3 hi3
  go_wp2_with fail
  refine (want_any _).mono ?_
  rintro e w4 ⟨g4, rfl, hr4, hk4⟩
  go_wp2_with fail
  refine (have_any _).mono ?_
  rintro e w5 ⟨g5, rfl, hr5, hk5⟩
  go_wp2_with fail
  refine (Best_any _ _ 2 3 2 3 wantV haveV 1 w5 (hr4.no hk5) hr5).mono ?_
  simp only [best1]
  rintro e w6 ⟨v6, rfl, ho6, hk6⟩
  obtain ⟨a6, c6, rfl, hc6, hi6⟩ := own_rdi ho6
  have I3b := Lib.hid (I3.out.no (hk4.tr (hk5.tr hk6)))
  have K6 := Lib.hid (K3.out.tr (hk4.tr (hk5.tr hk6)))
  have I6 := Lib.hid hi6
  clear hr4 hr5 hk4 hk5 hk6 ho6 hi6
  go_wp2_with fail
  refine (want_any _).mono ?_
  rintro e w7 ⟨g7, rfl, hr7, hk7⟩
  go_wp2_with fail
  refine (have_any _).mono ?_
  rintro e w8 ⟨g8, rfl, hr8, hk8⟩
  go_wp2_with fail
  refine (Cost_any _ _ 2 3 2 3 wantV haveV w8 (hr7.no hk8) hr8).mono ?_
  rintro e w9 ⟨c, rfl, _, hIs, hk9⟩
  have hc := isCost_canon _ c _ (nodup_addAll (-1) _ _ (nodup_addAll 1 _ [] (by simp [keys]))) (fun k hk => hk) (hIs chk0)
  replace hc := hc.trans cost0
  subst hc
  rw [chk0]
  have I9 := Lib.hid (I3b.out.no (hk7.tr (hk8.tr hk9)))
  have J9 := Lib.hid (I6.out.no (hk7.tr (hk8.tr hk9)))
  have K9 := Lib.hid (K6.out.tr (hk7.tr (hk8.tr hk9)))
  clear hr7 hr8 hk7 hk8 hk9 hIs
  go_wp2_with fail
  refine (same_any _ _ 2 2 c3 2 _ [0, 1] _ (I9.out.no (Kp.alloc _ _ _)) (rdi_new2 w9 0 1) (by omega)).mono ?_
  rw [show decide (List.map Int.ofNat [0, 1] = [0, 1]) = true from rfl]
  rintro e w10 ⟨rfl, hk10⟩
  go_wp2_with fail
  refine (same_any _ _ 1 1 c6 1 _ [0] _ ((J9.out.no ((Kp.alloc _ _ _).tr hk10)).no (Kp.alloc _ _ _)) (rdi_new1 w10 0) (by omega)).mono ?_
  rw [show decide (List.map Int.ofNat [0] = [0]) = true from rfl]
  rintro e w11 ⟨rfl, hk11⟩
  go_wp2_with fail
  go_ret
  exact ⟨rfl, K9.out.tr ((Kp.alloc _ _ _).tr (hk10.tr ((Kp.alloc _ _ _).tr hk11)))⟩
end Go.Proofs.Ytfflhlmnfhfcgaa
