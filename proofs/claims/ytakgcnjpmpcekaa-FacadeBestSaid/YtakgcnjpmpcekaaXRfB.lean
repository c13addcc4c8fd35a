/- Chapter 24: the document's gap and planned. -/
import Derived.Test.YtakgcnjpmpcekaaXGpB
namespace Go.Proofs.Ytakgcnjpmpcekaa
open Go.RowKit Go.Kq

set_option maxHeartbeats 4000000 in
theorem rgap_any (W : Int) (A : Option Addr) (m ca : Nat) (r : List Int) (w : World) (hR : RdI .i64 w A m r) (hm : m ≤ 100) (hW : 0 ≤ W ∧ W ≤ 10000000) (hr : ∀ x ∈ r, 0 ≤ x ∧ x ≤ 1000000) :
    Calls Try.prog 55 #[.int .i64 W, .slice A m ca] w fun e w' => e = .returned (.int .i64 (gapN W r)) ∧ w' = w := by
  have HR := Lib.hid hR
  have HL := Lib.hid hR.1
  have HRR := Lib.hid hr
  have bd : ∀ s : List Int, (∀ x ∈ s, 0 ≤ x ∧ x ≤ 1000000) → 0 ≤ s.sum ∧ s.sum ≤ 1000000 * s.length := fun s hs => by
    induction s with
    | nil => simp
    | cons a s ih =>
      have h1 := hs a (by simp)
      have h2 := ih fun x hx => hs x (by simp [hx])
      simp only [List.sum_cons, List.length_cons]
      omega
  have HBD := Lib.hid (fun k => bd (r.take k) fun x hx => hr x (List.mem_of_mem_take hx))
  have hG0 : gapN W r = if W - 2 * r.sum < 0 then -1 else (W - 2 * r.sum) / ((m : Int) + 1) := by unfold gapN; rw [HL.out]
  have HG := Lib.hid hG0
  clear hR hr bd hG0
  go_enter Try.func55, Try.ntmps55
  go_wp2_with fail
  go_loop [5, 6] (fun v i => ∃ k : Nat, k ≤ m ∧ i = .int .i64 (k : Nat) ∧ v = .int .i64 (W - 2 * (r.take k).sum)) (fun _ i => m - (intOf i).toNat)
  case atStart => exact ⟨0, by omega, rfl, by simp⟩
  case round =>
    obtain ⟨k, hk, rfl, rfl⟩ := hrel
    have hbd := HBD.out k
    have hkl : (r.take k).length ≤ 100 := by rw [List.length_take]; omega
    have hbd2 : 0 ≤ (r.take k).sum ∧ (r.take k).sum ≤ 100000000 := ⟨hbd.1, by omega⟩
    clear hbd
    by_cases hlt : k < m
    · obtain ⟨x, hx⟩ : ∃ x, r[k]? = some x := ⟨_, List.getElem?_eq_getElem (by rw [HL.out]; exact hlt)⟩
      obtain ⟨b, o, rfl, hb, hc⟩ := HR.out.2 k x hx
      have hx1 := HRR.out x (List.mem_of_getElem? hx)
      have HT := Lib.hid (show (r.take (k + 1)).sum = (r.take k).sum + x by rw [List.take_add_one, hx]; simp)
      clear hx
      generalize (r.take k).sum = T at *
      go_wp2_with fail
      go_round
      case rel => exact ⟨k + 1, by omega, by go_num, by rw [HT.out]; congr 1; omega⟩
      case measure => simp [intOf]; omega
    · obtain rfl : k = m := by omega
      have hrt : r.take k = r := List.take_of_length_le (by rw [HL.out]; exact Nat.le_refl _)
      rw [hrt] at hbd2 ⊢
      clear hrt
      generalize r.sum = SS at *
      by_cases hneg : W - 2 * SS < 0
      · have HE := Lib.hid (show gapN W r = -1 by rw [HG.out, if_pos hneg])
        go_wp2_with fail
        go_ret
        exact ⟨by rw [HE.out]; rfl, rfl⟩
      · obtain ⟨G, hG⟩ : ∃ G, (W - 2 * SS) / ((k : Int) + 1) = G := ⟨_, rfl⟩
        have HE := Lib.hid (show gapN W r = G by rw [HG.out, if_neg hneg, hG])
        go_wp2_with fail
        go_ret
        exact ⟨by rw [HE.out]; rfl, rfl⟩
theorem any_flat {α : Type} (p : α → Bool) (L : List (List α)) (k : Nat) (S : List α) (h : L[k]? = some S) : (L.take (k + 1)).flatten.any p = ((L.take k).flatten.any p || S.any p) := by
  rw [take_flat L k S h, List.any_append]
set_option maxHeartbeats 8000000 in
set_option maxRecDepth 100000 in
theorem rplanned_any (g : Nat) (A B : Option Addr) (n ca L cl : Nat) (m : Int) (Ls : List (List Int)) (w : World) (hR : RdL g w A n Ls) (hn : n ≤ 20) (hb : ∀ S ∈ Ls, S.length ≤ 70) :
    Calls Try.prog 49 #[.slice B L cl, .slice A n ca, .int .i64 m] w fun e w' => e = .returned (.int .i64 (plaE L Ls m)) ∧ w' = w := by
  have HR := Lib.hid hR
  have HL := Lib.hid hR.1
  have HB := Lib.hid hb
  have HPE := Lib.hid (show plaE L Ls m = if n ≠ L ∨ 60 < Ls.flatten.length then 2 else if Ls.flatten.any (plaB m) then 2 else 0 by rw [← hR.1]; rfl)
  clear hR hb
  by_cases hnL : n = L
  rotate_left
  · have HE := Lib.hid (show plaE L Ls m = 2 by rw [HPE.out, if_pos (.inl hnL)])
    have d1 : ((n : Int) != (L : Int)) = true := by simp; omega
    rw [HE.out]
    go_enter Try.func49, Try.ntmps49
    go_wp2_with fail
    go_ret
    exact ⟨rfl, rfl⟩
  subst hnL
  have HP2 := Lib.hid (show plaE n Ls m = if 60 < Ls.flatten.length then 2 else if Ls.flatten.any (plaB m) then 2 else 0 by rw [HPE.out]; simp)
  have HTK := Lib.hid (fun k => take_flat_le Ls k)
  have HBAD := Lib.hid (show (∃ p ∈ Ls.flatten, plaB m p = true) → plaE n Ls m = 2 from fun ⟨p, hp, hq⟩ => by
    rw [HP2.out]
    split
    · rfl
    · rw [if_pos (List.any_eq_true.2 ⟨p, hp, hq⟩)])
  clear HPE
  go_enter Try.func49, Try.ntmps49
  go_wp2_with fail
  go_loop [7, 8] (fun v i => ∃ k : Nat, k ≤ n ∧ i = .int .i64 (k : Nat) ∧ v = .int .i64 ((Ls.take k).flatten.length : Nat) ∧ (Ls.take k).flatten.length ≤ 60 ∧ (Ls.take k).flatten.any (plaB m) = false) (fun _ i => n - (intOf i).toNat)
  case atStart => exact ⟨0, by omega, rfl, rfl, by simp, by simp⟩
  case round =>
    obtain ⟨k, hk, rfl, rfl, h60, hno⟩ := hrel
    have HN := Lib.hid hno
    clear hno
    by_cases hlt : k < n
    · obtain ⟨S, hS⟩ : ∃ S, Ls[k]? = some S := ⟨_, List.getElem?_eq_getElem (by rw [HL.out]; exact hlt)⟩
      obtain ⟨b, o, A', n', c', rfl, hb1, hc, hnil, hr, _⟩ := HR.out.2 k S hS
      have hSl := HB.out S (List.mem_of_getElem? hS)
      have hsn : S.length = n' := hr.1
      have HSN := Lib.hid hsn
      have HS := Lib.hid (show (Ls.take (k + 1)).flatten.length = (Ls.take k).flatten.length + n' by rw [take_flat Ls k S hS, List.length_append, hsn])
      have HAN := Lib.hid (any_flat (plaB m) Ls k S hS)
      have hq2 := HTK.out (k + 1)
      have HSM := Lib.hid (List.mem_of_getElem? hS)
      have HRS := Lib.hid hr
      rw [HS.out] at hq2
      have hbl := hb1.2
      rw [hsn] at hSl
      clear hr hnil hS hb1 hsn
      generalize (Ls.take k).flatten.length = q at *
      by_cases h6 : 60 < q + n'
      · have HE := Lib.hid (show plaE n Ls m = 2 by rw [HP2.out, if_pos (by omega)])
        go_wp2_with fail
        go_ret
        exact ⟨by rw [HE.out]; rfl, rfl⟩
      · go_wp2_with fail
        go_loop [9] (fun i => ∃ j : Nat, j ≤ n' ∧ i = .int .i64 (j : Nat) ∧ (S.take j).any (plaB m) = false) (fun i => n' - (intOf i).toNat)
        case atStart => exact ⟨0, by omega, rfl, by simp⟩
        case round =>
          obtain ⟨j, hj, rfl, hnj⟩ := hrel
          have HNJ := Lib.hid hnj
          clear hnj
          by_cases hlt2 : j < n'
          · obtain ⟨p, hp⟩ : ∃ p, S[j]? = some p := ⟨_, List.getElem?_eq_getElem (by rw [HSN.out]; exact hlt2)⟩
            obtain ⟨b', o', rfl, hb', hc'⟩ := HRS.out.2 j p hp
            have HT := Lib.hid (any_take_succ (plaB m) S j p hp)
            have HQ := Lib.hid (show plaB m p = (decide (p < 0) || (decide (0 ≤ m) && decide (m ≤ p))) from rfl)
            have HE := Lib.hid (show plaB m p = true → plaE n Ls m = 2 from fun h => HBAD.out ⟨p, List.mem_flatten.2 ⟨S, HSM.out, List.mem_of_getElem? hp⟩, h⟩)
            clear hp
            by_cases h1 : p < 0
            · have HE2 := Lib.hid (HE.out (by rw [HQ.out]; simp [h1]))
              go_wp2_with fail
              go_ret
              exact ⟨by rw [HE2.out]; rfl, rfl⟩
            · by_cases h2 : 0 ≤ m
              · by_cases h3 : m ≤ p
                · have HE2 := Lib.hid (HE.out (by rw [HQ.out]; simp [h2, h3]))
                  go_wp2_with fail
                  go_ret
                  exact ⟨by rw [HE2.out]; rfl, rfl⟩
                · have HF := Lib.hid (show plaB m p = false by rw [HQ.out]; simp; omega)
                  go_wp2_with fail
                  go_round
                  case rel => exact ⟨j + 1, by omega, by go_num, by rw [HT.out, HNJ.out, HF.out]; rfl⟩
                  case measure => simp [intOf]; omega
              · have HF := Lib.hid (show plaB m p = false by rw [HQ.out]; simp; omega)
                go_wp2_with fail
                go_round
                case rel => exact ⟨j + 1, by omega, by go_num, by rw [HT.out, HNJ.out, HF.out]; rfl⟩
                case measure => simp [intOf]; omega
          · obtain rfl : n' = j := by omega
            have HFA := Lib.hid (show S.any (plaB m) = false by
              have h := HNJ.out
              rwa [List.take_of_length_le (by rw [HSN.out]; exact Nat.le_refl _)] at h)
            go_wp2_with fail
            go_round
            case rel => exact ⟨k + 1, by omega, by go_num, by rw [HS.out]; go_num, by rw [HS.out]; omega, by rw [HAN.out, HN.out, HFA.out]; rfl⟩
            case measure => simp [intOf]; omega
    · obtain rfl : n = k := by omega
      have HAL := Lib.hid (show Ls.take n = Ls from List.take_of_length_le (by rw [HL.out]; exact Nat.le_refl _))
      have HE := Lib.hid (show plaE n Ls m = 0 by
        have h := HN.out
        rw [HAL.out] at h h60
        rw [HP2.out, if_neg (by omega), h]
        rfl)
      clear h60
      go_wp2_with fail
      go_ret
      exact ⟨by rw [HE.out]; rfl, rfl⟩
end Go.Proofs.Ytakgcnjpmpcekaa
