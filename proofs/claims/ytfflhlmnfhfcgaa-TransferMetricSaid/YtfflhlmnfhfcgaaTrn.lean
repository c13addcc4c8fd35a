/- Chapter 33: turned and power: walks. -/
import Derived.Test.YtfflhlmnfhfcgaaMetP
namespace Go.Proofs.Ytfflhlmnfhfcgaa
open Go.RowKit Go.Kq

theorem rdv_news {w : World} {b o n : Nat} {vs : List Vc} (h : RdV w (some ⟨b, o, none⟩) n vs) (j : Nat) (u : Value) (hj : (flat vs)[j]? = some u) : w.cell? ⟨b, o + j, none⟩ = some u := by
  have hl := (List.getElem?_eq_some_iff.1 hj).1
  rw [flat_len] at hl
  obtain ⟨v, hv⟩ : ∃ v, vs[j / 4]? = some v := ⟨_, List.getElem?_eq_getElem (by omega)⟩
  obtain ⟨b', o', e, _, c0, c1, c2, c3⟩ := h.2 _ v hv
  cases e
  obtain ⟨f0, f1, f2, f3⟩ := flat_at vs _ v hv
  have hr : j % 4 = 0 ∨ j % 4 = 1 ∨ j % 4 = 2 ∨ j % 4 = 3 := by omega
  rcases hr with hr | hr | hr | hr
  · rw [show j = j / 4 * 4 by omega] at hj ⊢
    rw [f0] at hj
    rw [← hj]
    exact c0
  · rw [show j = j / 4 * 4 + 1 by omega] at hj ⊢
    rw [f1] at hj
    rw [← hj]
    exact c1
  · rw [show j = j / 4 * 4 + 2 by omega] at hj ⊢
    rw [f2] at hj
    rw [← hj]
    exact c2
  · rw [show j = j / 4 * 4 + 3 by omega] at hj ⊢
    rw [f3] at hj
    rw [← hj]
    exact c3
theorem flat_tk {vs : List Vc} {k : Nat} {j : Nat} {u : Value} (h : (flat (vs.take k))[j]? = some u) : (flat vs)[j]? = some u := by
  rw [flat_split vs k, List.getElem?_append_left]
  · exact h
  · exact (List.getElem?_eq_some_iff.1 h).1
theorem flat_dr {vs : List Vc} {k : Nat} (hk : k ≤ vs.length) {j : Nat} {u : Value} (h : (flat (vs.drop k))[j]? = some u) : (flat vs)[k * 4 + j]? = some u := by
  rw [flat_split vs k, List.getElem?_append_right (by rw [flat_len, List.length_take]; omega), flat_len, List.length_take, Nat.min_eq_left hk, Nat.add_sub_cancel_left]
  exact h
theorem turned_nil (A : Option Addr) (cap : Nat) (by_ : Int) (w : World) :
    Calls Try.prog 23 #[.slice A 0 cap, .int .u8 by_] w fun e w' => e = .returned (.slice none 0 0) ∧ w' = w := by
  go_enter Try.func23, Try.ntmps23
  go_wp2
  go_ret
  exact ⟨rfl, rfl⟩
set_option maxHeartbeats 2000000 in
set_option maxRecDepth 100000 in
theorem turned_any (A : Option Addr) (n cap y : Nat) (vs : List Vc) (w : World) (hx : RdV w A n vs) (hn : n ≤ 24) (hnc : n ≤ cap) (h0 : 0 < n) (hy : y < 256) :
    Calls Try.prog 23 #[.slice A n cap, .int .u8 (y : Nat)] w fun e w' => ∃ v, e = .returned v ∧ w'.ownsRow w.heap.size 38 4 v n (flat (vs.drop (y % n) ++ vs.take (y % n))) ∧ Kp No w w' := by
  obtain ⟨i0, hi, hz0, hz1, hz2⟩ := info_parts info38
  have hl := hx.1
  obtain ⟨v0, hv0⟩ : ∃ v, vs[0]? = some v := ⟨_, List.getElem?_eq_getElem (by omega)⟩
  obtain ⟨b, o, rfl, hb, _⟩ := hx.2 0 v0 hv0
  clear hv0
  have e1 : ((y : Int) % (n : Int)) = ((y % n : Nat) : Int) := by simp
  have e2 : ((y : Int).tmod (n : Int)) = ((y % n : Nat) : Int) := rfl
  obtain ⟨k, hk⟩ : ∃ k, y % n = k := ⟨_, rfl⟩
  have hkn : k < n := by rw [← hk]; exact Nat.mod_lt _ h0
  rw [hk] at e1 e2 ⊢
  clear hk
  have HN1 := Lib.hid (fun (j : Nat) (u : Value) (h : (flat (vs.drop k))[j]? = some u) => rdv_news hx _ u (flat_dr (by omega) h))
  have HN2 := Lib.hid (fun (j : Nat) (u : Value) (h : (flat (vs.take k))[j]? = some u) => rdv_news hx _ u (flat_tk h))
  have HL1 := Lib.hid (show (flat (vs.drop k)).length = (n - k) * 4 by rw [flat_len, List.length_drop, hl])
  have HL2 := Lib.hid (show (flat (vs.take k)).length = k * 4 by rw [flat_len, List.length_take]; congr 1; omega)
  have HNO := Lib.hid (show ∀ (a b c d : Nat), (some (⟨a, b, none⟩ : Addr) = none → c = 0 ∧ d = 0) from fun a b c d h => by cases h)
  have h63 : 0 + (n - k) ≤ maxLen := by unfold maxLen; omega
  have hbytes : (0 + (n - k)) * 32 ≤ 140737488355328 := by omega
  have h63b : (n - k) + k ≤ maxLen := by unfold maxLen; omega
  have hbytesb : ((n - k) + k) * 32 ≤ 140737488355328 := by omega
  have HSUM := Lib.hid (show n - k + k = n by omega)
  have i1 : (0 : Int) ≤ (k : Int) := by omega
  have i2 : (k : Int) ≤ (n : Int) := by omega
  have i3 : (k : Int) ≤ (cap : Int) := by omega
  have i4 : ¬ cap = k := by omega
  clear hx
  go_enter Try.func23, Try.ntmps23
  go_wp2_with fail
  clear e1 e2
  go_region_held3 (fun _ => True) (trivial)
    ((first | (refine stepS_append (by rfl) _ _ 22 (by rfl) w.heap.size 38 i0 (.agg #[.int .i64 0, .int .i64 0, .int .i64 0, .int .i64 0]) 4 32 Try.underlying22 hi hz0 hz1 hz2 (by rfl) (by decide) (.slice (some ⟨w.heap.size, 0, none⟩) 0 0) 0 [] (by rfl) (own_kp (Kq.own_empty (Nat.le_refl _)) (Kp.drew No _) (fun _ _ h => h)) (some ⟨b, o + k * 4, none⟩) (n - k) (cap - k) (flat (vs.drop k)) (by rfl) HL1.out (HNO.out _ _ _ _) (fun ad had j u hj => by cases had; rw [add_at, Nat.add_assoc]; exact (Kp.alloc No w _).cell (HN1.out j u hj) id) (flat_one _) h63 hbytes (by simp) (n - k) (Nat.zero_add _) (flat (vs.drop k)) (List.nil_append _) ?_; intro v5 w5 hown5 hgrow5 hnz5; have K5 : Kp No w w5 := ((Kp.drew _ _).tr (Kp.alloc _ _ _)).trans (Kp.grown (S := fun g => w.heap.size ≤ g) hgrow5 (fun g hg _ => by cases hg; exact Nat.le_refl _)) (fun g hg h => absurd h (Nat.not_le.2 hg))) | (refine stepS_append (by rfl) _ _ 22 (by rfl) w.heap.size 38 i0 (.agg #[.int .i64 0, .int .i64 0, .int .i64 0, .int .i64 0]) 4 32 Try.underlying22 hi hz0 hz1 hz2 (by rfl) (by decide) v5 (n - k) (flat (vs.drop k)) (by rfl) hown5 (some ⟨b, o, none⟩) k cap (flat (vs.take k)) (by rfl) HL2.out (HNO.out _ _ _ _) (fun ad had j u hj => by cases had; rw [add_at]; exact K5.cell (HN2.out j u hj) id) (flat_one _) h63b hbytesb K5.size n HSUM.out (flat (vs.drop k ++ vs.take k)) (flat_append _ _).symm ?_; intro v6 w6 hown6 hgrow6 hnz6; have K6 : Kp No w w6 := K5.trans (Kp.grown (S := fun g => w.heap.size ≤ g) hgrow6 (fun g hg _ => (Kq.own_ge hown5 hg).1)) (fun g hg h => absurd h (Nat.not_le.2 hg)))))
  all_goals
    have HO := Lib.hid hown6
    have HK := Lib.hid K6
    clear hown6 hgrow6 hnz6 K6 hown5 hgrow5 hnz5 K5
    go_wp2_with fail
    go_ret
    exact ⟨_, rfl, HO.out, HK.out⟩
set_option maxHeartbeats 1000000 in
theorem power_any (A : Option Addr) (n cap : Nat) (vs : List Vc) (w : World) (hx : RdV w A n vs) (hn : n ≤ 1000) (hq : ∀ v ∈ vs, 0 ≤ v.q ∧ v.q ≤ 100000) :
    Calls Try.prog 24 #[.slice A n cap] w fun e w' => e = .returned (.int .i64 (pow vs)) ∧ Kp No w w' := by
  have hl := hx.1
  have HQ := Lib.hid hq
  clear hq
  go_enter Try.func24, Try.ntmps24
  go_wp2_with fail
  go_loopw [3, 4] (fun s i wr => ∃ k : Nat, k ≤ n ∧ i = .int .i64 k ∧ s = .int .i64 (pow (vs.take k)) ∧ 0 ≤ pow (vs.take k) ∧ pow (vs.take k) ≤ 100000 * k ∧ Kp No w wr) (fun _ i _ => n - (intOf i).toNat)
  case atStart => exact ⟨0, by omega, rfl, rfl, by simp [pow, tot], by simp [pow, tot], Kp.refl _ _⟩
  case round =>
    obtain ⟨k, hk, rfl, rfl, hp0, hp1, hkp⟩ := hrel
    by_cases hlt : k < n
    · obtain ⟨x, hxk⟩ : ∃ x, vs[k]? = some x := ⟨_, List.getElem?_eq_getElem (by omega)⟩
      obtain ⟨b, o, rfl, hb, c0, c1, c2, c3⟩ := (hx.no hkp).2 k x hxk
      have hxq := HQ.out x (List.mem_of_getElem? hxk)
      have hsn : pow (vs.take (k + 1)) = pow (vs.take k) + x.q := by
        rw [List.take_add_one, hxk]
        unfold pow
        rw [tot_append]
        simp [tot]
      have HS := Lib.hid hsn
      clear hsn hxk
      go_wp2
      go_roundw
      case rel => exact ⟨k + 1, by omega, by go_num, by rw [HS.out], by rw [HS.out]; omega, by rw [HS.out]; omega, hkp⟩
      case measure => simp [intOf]; omega
    · obtain rfl : k = n := by omega
      rw [List.take_of_length_le (by omega)]
      go_wp2
      go_ret
      exact ⟨rfl, hkp⟩
end Go.Proofs.Ytfflhlmnfhfcgaa
