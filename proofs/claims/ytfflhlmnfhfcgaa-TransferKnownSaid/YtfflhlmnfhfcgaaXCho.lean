/- Chapter 33: rows of voices; the walk of 'chosen'. -/
import Derived.Test.YtfflhlmnfhfcgaaXLwM
namespace Go.Proofs.Ytfflhlmnfhfcgaa
open Go.RowKit Go.Kq

def Vc.cells4 (v : Vc) : List Value := [.int .i64 v.d, .int .i64 v.p, .int .i64 v.f, .int .i64 v.q]
def flat : List Vc → List Value
  | [] => []
  | v :: vs => .int .i64 v.d :: .int .i64 v.p :: .int .i64 v.f :: .int .i64 v.q :: flat vs
theorem flat_len : ∀ vs, (flat vs).length = vs.length * 4
  | [] => rfl
  | v :: vs => by
    simp only [flat, List.length_cons, flat_len vs]
    omega
theorem flat_snoc (v : Vc) : ∀ vs, flat (vs ++ [v]) = flat vs ++ v.cells4
  | [] => rfl
  | u :: vs => by
    simp only [List.cons_append, flat, flat_snoc v vs]
theorem flat_at : ∀ (vs : List Vc) (i : Nat) (v : Vc), vs[i]? = some v → (flat vs)[i * 4]? = some (.int .i64 v.d) ∧ (flat vs)[i * 4 + 1]? = some (.int .i64 v.p) ∧ (flat vs)[i * 4 + 2]? = some (.int .i64 v.f) ∧ (flat vs)[i * 4 + 3]? = some (.int .i64 v.q)
  | [], i, v, h => by simp at h
  | u :: vs, 0, v, h => by
    simp at h
    subst h
    exact ⟨rfl, rfl, rfl, rfl⟩
  | u :: vs, i + 1, v, h => by
    have := flat_at vs i v (by simpa using h)
    rw [show (i + 1) * 4 = i * 4 + 1 + 1 + 1 + 1 by omega]
    exact this
theorem flat_one (vs : List Vc) : ∀ u ∈ flat vs, u.oneCell' = true := by
  induction vs with
  | nil => intro u hu; cases hu
  | cons v vs ih =>
    intro u hu
    simp only [flat, List.mem_cons] at hu
    rcases hu with rfl | rfl | rfl | rfl | hu
    · rfl
    · rfl
    · rfl
    · rfl
    · exact ih u hu
theorem own_rdv {w : World} {base : Nat} {v : Value} {vs : List Vc} {n : Nat} (h : w.ownsRow base 38 4 v n (flat vs)) : ∃ a cap, v = .slice a n cap ∧ n ≤ cap ∧ RdV w a n vs := by
  have hl := h.1
  rw [flat_len] at hl
  have hn : vs.length = n := by omega
  obtain ⟨a, cap, rfl, h1, h2, h3⟩ := own_form h
  refine ⟨a, cap, rfl, h1, hn, fun i u hu => ?_⟩
  have hi := (List.getElem?_eq_some_iff.1 hu).1
  obtain ⟨g, rfl⟩ := h3 (by omega)
  have hb := (own_ge h (g := g) rfl).2
  obtain ⟨f0, f1, f2, f3⟩ := flat_at vs i u hu
  exact ⟨g, 0, rfl, hb, by rw [Nat.zero_add, h.cellAt _ (by omega), f0], by rw [Nat.zero_add, h.cellAt _ (by omega), f1], by rw [Nat.zero_add, h.cellAt _ (by omega), f2], by rw [Nat.zero_add, h.cellAt _ (by omega), f3]⟩
theorem info38 : (Try.prog.info? 38).map (fun i => (i.zero, i.size, i.bytes)) = some (some (.agg #[.int .i64 0, .int .i64 0, .int .i64 0, .int .i64 0]), 4, 32) := by kernel_rfl
theorem new4 (w : World) (v : Vc) : ∀ j u, v.cells4[j]? = some u → (w.alloc (.cells #[.int .i64 v.d, .int .i64 v.p, .int .i64 v.f, .int .i64 v.q] 38)).cell? ((⟨w.heap.size, 0, none⟩ : Addr).add j) = some u := by
  intro j u hj
  unfold Vc.cells4 at hj
  rw [show ((⟨w.heap.size, 0, none⟩ : Addr).add j) = ⟨w.heap.size, j, none⟩ by unfold Addr.add; split <;> simp_all]
  match j, hj with
  | 0, hj => simp at hj; subst hj; go_simp
  | 1, hj => simp at hj; subst hj; go_simp
  | 2, hj => simp at hj; subst hj; go_simp
  | 3, hj => simp at hj; subst hj; go_simp
theorem cells4_one (v : Vc) : ∀ u ∈ v.cells4, u.oneCell' = true := by
  intro u hu
  simp only [Vc.cells4, List.mem_cons, List.not_mem_nil, or_false] at hu
  rcases hu with rfl | rfl | rfl | rfl <;> rfl
theorem flat_take (vs : List Vc) (k : Nat) (v : Vc) (h : vs[k]? = some v) : flat (vs.take k) ++ v.cells4 = flat (vs.take (k + 1)) := by
  rw [List.take_add_one, h]
  exact (flat_snoc v _).symm

set_option maxHeartbeats 2000000 in
theorem chosen_any (A B : Option Addr) (n m ca cb : Nat) (ys vs : List Vc) (out : List Nat) (w : World) (hy : RdV w A n ys) (ho : RdI w B m (out.map Int.ofNat)) (_hn : n ≤ 24) (hm : m ≤ 14) (hvl : vs.length = m)
    (hv : ∀ (k i : Nat), out[k]? = some i → i < n ∧ ys[i]? = vs[k]?) (hasc : ∀ (k i j : Nat), out[k]? = some i → out[k + 1]? = some j → i < j) :
    Calls Try.prog 15 #[.slice A n ca, .slice B m cb] w fun e w' => ∃ v, e = .returned (.tuple #[v, .bool true]) ∧ w'.ownsRow w.heap.size 38 4 v m (flat vs) ∧ Kp No w w' := by
  obtain ⟨i0, hi0, hz0, hz1, hz2⟩ := info_parts info38
  have hol : out.length = m := by simpa using ho.1
  have HV := Lib.hid hv
  have HA := Lib.hid hasc
  clear hv hasc
  go_enter Try.func15, Try.ntmps15
  go_wp2_with fail
  go_loopw [6, 7] (fun s i wr => ∃ k : Nat, k ≤ m ∧ i = .int .i64 k ∧ wr.ownsRow w.heap.size 38 4 s k (flat (vs.take k)) ∧ Kp No w wr) (fun s i _ => m - (intOf i).toNat)
  case atStart => exact ⟨0, by omega, rfl, ⟨rfl, .inl ⟨rfl, rfl⟩⟩, Kp.refl _ _⟩
  case round =>
    obtain ⟨k, hk, rfl, hown, hkp⟩ := hrel
    by_cases hlt : k < m
    · obtain ⟨x, hxk⟩ : ∃ x, out[k]? = some x := ⟨_, List.getElem?_eq_getElem (by omega)⟩
      obtain ⟨v, hvk⟩ : ∃ v, vs[k]? = some v := ⟨_, List.getElem?_eq_getElem (by omega)⟩
      obtain ⟨hxn, hyx⟩ := HV.out k x hxk
      rw [hvk] at hyx
      obtain ⟨b, o, rfl, hb, c0, c1, c2, c3⟩ := (hy.no hkp).2 x v hyx
      have hok := (ho.no hkp).2
      obtain ⟨b', o', rfl, d0⟩ := hok k x (by rw [List.getElem?_map, hxk]; rfl)
      replace d0 : wr.cell? ⟨b', o' + k, none⟩ = some (.int .i64 x) := d0
      have X := Lib.hid hxk
      have VK := Lib.hid hvk
      clear hxk hvk hyx
      have HO := Lib.hid hown
      have HK := Lib.hid hok
      clear hok hown
      have hx0 : decide ((x : Int) < 0) = false := by rw [decide_eq_false_iff_not]; omega
      have hx1 : decide (n ≤ x) = false := by rw [decide_eq_false_iff_not]; omega
      by_cases h0 : k = 0
      · have h0k : decide (0 < k) = false := by rw [decide_eq_false_iff_not]; omega
        clear h0
        go_wp2_with fail
        go_quiet (fail)
        go_wp2_with (at_builtin; refine stop_in ?_)
        refine stop_out ?_
        refine wpList_append_own_at _ rfl _ _ 22 rfl w.heap.size 38 i0 (.agg #[.int .i64 0, .int .i64 0, .int .i64 0, .int .i64 0]) 4 32 Try.underlying22 hi0 hz0 hz1 hz2 rfl (by decide) u6 k (flat (vs.take k)) rfl ((show (wr.drewN nq).ownsRow w.heap.size 38 4 u6 k (flat (vs.take k)) from HO.out).alloc _) ⟨wr.heap.size, 0, none⟩ 1 1 v.cells4 rfl rfl (new4 _ v) (cells4_one v) (by unfold maxLen; omega) (by omega) (by have := hkp.size; simp; omega) ?_
        intro v' w3 hown' hgrow hnil hat
        rw [flat_take vs k v VK.out] at hown'
        have hk3 : Kp No w w3 := (hkp.tr (Kp.drewN _ _ nq)).trans ((Kp.alloc (fun g => w.heap.size ≤ g) _ _).tr (Kp.grown hgrow fun g hg _ => (own_ge HO.out hg).1)) (fun g hg h => absurd h (Nat.not_le.2 hg))
        have HO3 := Lib.hid hown'
        have HK3 := Lib.hid hk3
        clear hown' hgrow hnil hat hk3
        go_wp2_with fail
        go_roundw
        case rel => exact ⟨k + 1, by omega, by go_num, HO3.out, HK3.out⟩
        case measure => simp [intOf]; omega
      · obtain ⟨k', hk'⟩ : ∃ k', k = k' + 1 := ⟨k - 1, by omega⟩
        obtain ⟨y, hyk⟩ : ∃ y, out[k']? = some y := ⟨_, List.getElem?_eq_getElem (by omega)⟩
        obtain ⟨b2, o2, hb2, d1⟩ := HK.out k' y (by rw [List.getElem?_map, hyk]; rfl)
        cases hb2
        replace d1 : wr.cell? ⟨b', o' + k', none⟩ = some (.int .i64 y) := d1
        have hxy : decide (x ≤ y) = false := by
          have := HA.out k' y x hyk (hk' ▸ X.out)
          rw [decide_eq_false_iff_not]
          omega
        have h0k : decide (0 < k) = true := by rw [decide_eq_true_iff]; omega
        have hkk : (k : Int) - 1 = (k' : Int) := by omega
        have hk'l : k' < m := by omega
        clear h0 hk' hyk
        go_wp2_with fail
        go_quiet (fail)
        go_wp2_with (at_builtin; refine stop_in ?_)
        refine stop_out ?_
        refine wpList_append_own_at _ rfl _ _ 22 rfl w.heap.size 38 i0 (.agg #[.int .i64 0, .int .i64 0, .int .i64 0, .int .i64 0]) 4 32 Try.underlying22 hi0 hz0 hz1 hz2 rfl (by decide) u6 k (flat (vs.take k)) rfl ((show (wr.drewN nq).ownsRow w.heap.size 38 4 u6 k (flat (vs.take k)) from HO.out).alloc _) ⟨wr.heap.size, 0, none⟩ 1 1 v.cells4 rfl rfl (new4 _ v) (cells4_one v) (by unfold maxLen; omega) (by omega) (by have := hkp.size; simp; omega) ?_
        intro v' w3 hown' hgrow hnil hat
        rw [flat_take vs k v VK.out] at hown'
        have hk3 : Kp No w w3 := (hkp.tr (Kp.drewN _ _ nq)).trans ((Kp.alloc (fun g => w.heap.size ≤ g) _ _).tr (Kp.grown hgrow fun g hg _ => (own_ge HO.out hg).1)) (fun g hg h => absurd h (Nat.not_le.2 hg))
        have HO3 := Lib.hid hown'
        have HK3 := Lib.hid hk3
        clear hown' hgrow hnil hat hk3
        go_wp2_with fail
        go_roundw
        case rel => exact ⟨k + 1, by omega, by go_num, HO3.out, HK3.out⟩
        case measure => simp [intOf]; omega
    · have HO := Lib.hid hown
      clear hown
      obtain rfl : k = m := by omega
      go_wp2
      refine bodyPost_ret (v := .tuple #[u6, .bool true]) (by simp [results, Try.results15, go_sem]) rfl ⟨_, rfl, ?_, hkp⟩
      have h := HO.out
      rw [List.take_of_length_le (by omega)] at h
      exact h
end Go.Proofs.Ytfflhlmnfhfcgaa
