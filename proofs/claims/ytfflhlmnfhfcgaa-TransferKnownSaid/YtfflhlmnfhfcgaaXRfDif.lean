/- Chapter 33: the walk of the reference's differences. -/
import Derived.Test.YtfflhlmnfhfcgaaXRfAdd
namespace Go.Proofs.Ytfflhlmnfhfcgaa
open Go.RowKit Go.Kq

theorem addL_snoc (l vs : List Vc) (v : Vc) : addL l (vs ++ [v]) = addC v (addL l vs) := by simp [addL]
theorem addC_len (c : Vc) : ∀ l, (addC c l).length ≤ l.length + 1
  | [] => by simp [addC]
  | x :: l => by
    have := addC_len c l
    unfold addC
    split
    · simp; omega
    · split <;> simp
theorem addL_len : ∀ (vs l : List Vc), (addL l vs).length ≤ l.length + vs.length
  | [], l => by simp [addL]
  | v :: vs, l => by
    have h1 := addL_len vs (addC v l)
    have h2 := addC_len v l
    simp only [addL, List.foldl_cons, List.length_cons] at h1 ⊢
    omega
def Bd (M : Int) (l : List Vc) : Prop := ∀ v ∈ l, -M ≤ v.q ∧ v.q ≤ M
theorem addC_bd {M : Int} {c : Vc} (hM : 0 ≤ M) (hc : -100 ≤ c.q ∧ c.q ≤ 100) : ∀ l, Bd M l → Bd (M + 100) (addC c l)
  | [], _ => fun v hv => by
    simp [addC] at hv
    rw [hv]
    omega
  | x :: l, h => by
    have hx := h x (by simp)
    have hl : Bd M l := fun v hv => h v (by simp [hv])
    have ih := addC_bd hM hc l hl
    unfold addC
    split
    · intro v hv
      rcases List.mem_cons.1 hv with rfl | hv
      · omega
      · exact ih v hv
    · split
      · intro v hv
        rcases List.mem_cons.1 hv with rfl | hv
        · omega
        · have := h v hv
          omega
      · intro v hv
        rcases List.mem_cons.1 hv with rfl | hv
        · show -(M + 100) ≤ x.q + c.q ∧ x.q + c.q ≤ M + 100
          omega
        · have := hl v hv
          omega
theorem addL_bd : ∀ (vs l : List Vc) (M : Int), 0 ≤ M → Bd M l → (∀ v ∈ vs, -100 ≤ v.q ∧ v.q ≤ 100) → Bd (M + 100 * vs.length) (addL l vs)
  | [], l, M, _, h, _ => by simpa [addL] using h
  | v :: vs, l, M, hM, h, hv => by
    have h1 := addL_bd vs (addC v l) (M + 100) (by omega) (addC_bd hM (hv v (by simp)) l h) (fun u hu => hv u (by simp [hu]))
    have e : M + 100 * ((v :: vs).length : Nat) = M + 100 + 100 * (vs.length : Nat) := by simp; omega
    rw [e]
    exact h1
theorem take_map_snoc (ys : List Vc) (k : Nat) (v : Vc) (h : ys[k]? = some v) : (ys.take (k + 1)).map neg = (ys.take k).map neg ++ [neg v] := by
  rw [List.take_add_one, h]
  simp

set_option maxHeartbeats 2000000 in
theorem dif_any (A B : Option Addr) (n m ca cb : Nat) (xs ys : List Vc) (w : World) (hx : RdV w A n xs) (hy : RdV w B m ys) (hn : n ≤ 24) (hm : m ≤ 24) (sx : Sane xs) (sy : Sane ys) :
    Calls Try.prog 36 #[.slice A n ca, .slice B m cb] w fun e w' => ∃ v, e = .returned v ∧ w'.ownsRow w.heap.size 59 4 v (dif xs ys).length (flat (dif xs ys)) ∧ Kp No w w' := by
  have hxl := hx.1
  have hyl := hy.1
  have SX := Lib.hid sx
  have SY := Lib.hid sy
  clear sx sy
  go_enter Try.func36, Try.ntmps36
  go_wp2_with fail
  go_loopw [5, 6] (fun s i wr => ∃ k : Nat, k ≤ n ∧ i = .int .i64 k ∧ wr.ownsRow w.heap.size 59 4 s (addL [] (xs.take k)).length (flat (addL [] (xs.take k))) ∧ Kp No w wr) (fun s i _ => n - (intOf i).toNat)
  case atStart => exact ⟨0, by omega, rfl, ⟨rfl, .inl ⟨rfl, rfl⟩⟩, Kp.refl _ _⟩
  case round =>
    obtain ⟨k, hk, rfl, hown, hkp⟩ := hrel
    obtain ⟨a, cp, rfl, _, _, _⟩ := own_form hown
    have HO := Lib.hid hown
    clear hown
    by_cases hlt : k < n
    · obtain ⟨v, hv⟩ : ∃ v, xs[k]? = some v := ⟨_, List.getElem?_eq_getElem (by omega)⟩
      obtain ⟨b, o, rfl, hb, c0, c1, c2, c3⟩ := (hx.no hkp).2 k v hv
      have hvq := SX.out v (List.mem_of_getElem? hv)
      have hl1 := addL_len (xs.take k) []
      have hb1 := addL_bd (xs.take k) [] 0 (by omega) (fun v hv => by cases hv) (fun u hu => by have := SX.out u (List.mem_of_mem_take hu); omega)
      rw [List.length_take] at hb1 hl1
      have hsn : addL [] (xs.take (k + 1)) = addC v (addL [] (xs.take k)) := by rw [List.take_add_one, hv]; exact addL_snoc _ _ _
      have HS := Lib.hid hsn
      have HB1 := Lib.hid hb1
      have HL1 := Lib.hid hl1
      clear hsn hv hb1 hl1
      generalize addL [] (xs.take k) = L at HO HS HB1 HL1 ⊢
      go_wp2_with fail
      refine (radd_any w.heap.size L.length cp a L v _ HO.out hkp.size (by have := HL1.out; simp at this; omega) (fun u hu => by have := HB1.out u hu; omega) (by omega)).mono ?_
      rintro e w2 ⟨v', rfl, ho2, hk2⟩
      have hk3 : Kp No w w2 := hkp.trans hk2 (fun g hg h => absurd h (Nat.not_le.2 hg))
      rw [← HS.out] at ho2
      have HO2 := Lib.hid ho2
      have HK3 := Lib.hid hk3
      clear ho2 hk2 hk3
      go_wp2_with fail
      go_roundw
      case rel => exact ⟨k + 1, by omega, by go_num, HO2.out, HK3.out⟩
      case measure => simp [intOf]; omega
    · obtain rfl : k = n := by omega
      have hfx : xs.take k = xs := List.take_of_length_le (by omega)
      rw [hfx] at HO ⊢
      clear hfx
      have HK0 := Lib.hid hkp
      go_wp2_with fail
      go_loopw [5, 7] (fun s i wr => ∃ j : Nat, j ≤ m ∧ i = .int .i64 j ∧ wr.ownsRow w.heap.size 59 4 s (addL (addL [] xs) ((ys.take j).map neg)).length (flat (addL (addL [] xs) ((ys.take j).map neg))) ∧ Kp No w wr) (fun s i _ => m - (intOf i).toNat)
      case atStart => exact ⟨0, by omega, rfl, HO.out, hkp⟩
      case round =>
        obtain ⟨j, hj, rfl, hown, hkp2⟩ := hrel
        obtain ⟨a2, cp2, rfl, _, _, _⟩ := own_form hown
        have HO2 := Lib.hid hown
        clear hown
        by_cases hlt2 : j < m
        · obtain ⟨v, hv⟩ : ∃ v, ys[j]? = some v := ⟨_, List.getElem?_eq_getElem (by omega)⟩
          obtain ⟨b, o, rfl, hb, c0, c1, c2, c3⟩ := (hy.no hkp2).2 j v hv
          have hvq := SY.out v (List.mem_of_getElem? hv)
          have hl1 := addL_len ((ys.take j).map neg) (addL [] xs)
          have hl2 := addL_len xs []
          have hb0 := addL_bd xs [] 0 (by omega) (fun v hv => by cases hv) (fun u hu => by have := SX.out u hu; omega)
          have hb1 := addL_bd ((ys.take j).map neg) (addL [] xs) _ (by omega) hb0 (fun u hu => by
            obtain ⟨y, hy, rfl⟩ := List.mem_map.1 hu
            have := SY.out y (List.mem_of_mem_take hy)
            show -100 ≤ -y.q ∧ -y.q ≤ 100
            omega)
          rw [List.length_map, List.length_take] at hb1 hl1
          have hsn : addL (addL [] xs) ((ys.take (j + 1)).map neg) = addC (neg v) (addL (addL [] xs) ((ys.take j).map neg)) := by rw [take_map_snoc ys j v hv]; exact addL_snoc _ _ _
          have HS := Lib.hid hsn
          have HB1 := Lib.hid hb1
          have HL1 := Lib.hid (show (addL (addL [] xs) ((ys.take j).map neg)).length ≤ 48 by simp at hl2; omega)
          clear hsn hv hb1 hl1 hl2 hb0
          generalize addL (addL [] xs) ((ys.take j).map neg) = L at HO2 HS HB1 HL1 ⊢
          go_wp2_with fail
          refine (radd_any w.heap.size L.length cp2 a2 L (neg v) _ (HO2.out.alloc _) (by have := hkp2.size; simp; omega) (by have := HL1.out; omega) (fun u hu => by have := HB1.out u hu; omega) (by show -100000 ≤ -v.q ∧ -v.q ≤ 100000; omega)).mono ?_
          rintro e w2 ⟨v', rfl, ho2, hk2⟩
          have hk3 : Kp No w w2 := (hkp2.tr (Kp.alloc _ _ _)).trans hk2 (fun g hg h => absurd h (Nat.not_le.2 hg))
          rw [← HS.out] at ho2
          have HO3 := Lib.hid ho2
          have HK3 := Lib.hid hk3
          clear ho2 hk2 hk3
          go_wp2_with fail
          go_roundw
          case rel => exact ⟨j + 1, by omega, by go_num, HO3.out, HK3.out⟩
          case measure => simp [intOf]; omega
        · obtain rfl : j = m := by omega
          have hfy : ys.take j = ys := List.take_of_length_le (by omega)
          rw [hfy] at HO2 ⊢
          clear hfy
          have HK2 := Lib.hid hkp2
          clear hkp2
          go_wp2_with fail
          go_ret
          exact ⟨_, rfl, HO2.out, HK2.out⟩
end Go.Proofs.Ytfflhlmnfhfcgaa
