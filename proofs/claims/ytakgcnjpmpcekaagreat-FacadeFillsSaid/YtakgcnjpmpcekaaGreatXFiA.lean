/- Chapter 24: the program's Fill. -/
import Derived.Test.YtakgcnjpmpcekaaGreatXGpB
namespace Go.Proofs.YtakgcnjpmpcekaaGreat
open Go.RowKit Go.Kq

theorem sum_take_succ {r : List Int} {k : Nat} {x : Int} (h : r[k]? = some x) : (r.take (k + 1)).sum = (r.take k).sum + x := by
  rw [List.take_add_one, h]
  simp
theorem sum_bd {M : Int} {r : List Int} (h : ∀ x ∈ r, 1 ≤ x ∧ x ≤ M) : 0 ≤ r.sum ∧ r.sum ≤ M * r.length := by
  induction r with
  | nil => simp
  | cons a r ih =>
    have h1 := h a (by simp)
    have h2 := ih fun x hx => h x (by simp [hx])
    simp only [List.sum_cons, List.length_cons]
    have : M * ((r.length + 1 : Nat) : Int) = M * r.length + M := by
      rw [Int.natCast_add, Int.mul_add]
      simp
    omega
theorem pos_take (g : Int) : ∀ (x : Int) (r : List Int) (k : Nat) (a : Int), r[k]? = some a → posN g x (r.take (k + 1)) = posN g x (r.take k) ++ [x + 2 * (r.take k).sum + g * k + a]
  | x, [], k, a, h => by simp at h
  | x, b :: r, 0, a, h => by
    simp at h
    subst h
    simp [posN]
  | x, b :: r, k + 1, a, h => by
    have ih := pos_take g (x + 2 * b + g) r k a (by simpa using h)
    rw [List.take_succ_cons, posN, ih, List.take_succ_cons, posN, List.sum_cons, List.cons_append]
    congr 3
    rw [show g * ((k + 1 : Nat) : Int) = g * k + g by rw [Int.natCast_succ, Int.mul_add, Int.mul_one]]
    omega
def FilR (W : Int) (r : List Int) (w : World) (e : Ending) (w' : World) : Prop := ∃ A c, e = .returned (.tuple #[.int .i64 (filG W r), .slice A (filL W r).length c, .int .i64 (filE W r)]) ∧ OwL w' w.heap.size (.slice A (filL W r).length c) (filL W r) ∧ Kp No w w'
theorem fil_err {W : Int} {r : List Int} {w w' : World} (h : filE W r ≠ 0) (k : Kp No w w') : FilR W r w (.returned (.tuple #[.int .i64 0, .slice none 0 0, .int .i64 (filE W r)])) w' := by
  have h1 : filG W r = 0 := by unfold filG; rw [if_neg h]
  have h2 : filL W r = [] := by unfold filL; rw [if_neg h]
  refine ⟨none, 0, ?_, ?_, k⟩
  · rw [h1, h2]
    rfl
  · rw [h2]
    exact World.ownsRow_nil _ _ _ _
set_option maxHeartbeats 8000000 in
theorem Fill_any (W : Int) (R : Option Addr) (m cr : Nat) (r : List Int) (w : World) (hR : RdI .i64 w R m r) (hm : m ≤ 100000) :
    Calls Tryz.prog 5 #[.int .i64 W, .slice R m cr] w (FilR W r w) := by
  have hl := hR.1
  have HR := Lib.hid hR
  have HL := Lib.hid hl
  have OUT := Lib.hid (fun w0 => outside_any W 1 10000000 w0)
  have HE := Lib.hid (show filE W r = if 60 < m then 3 else if oB W 1 10000000 || r.any (fun x => oB x 1 1000000) then 2 else if W - 2 * r.sum < 0 then 4 else 0 by rw [← hl]; rfl)
  by_cases h60 : 60 < m
  · have HEE := Lib.hid (show filE W r = 3 by rw [HE.out, if_pos h60])
    clear hR hl
    go_enter Tryz.func5, Tryz.ntmps5
    go_wp2_with fail
    refine bodyPost_ret (v := .tuple #[.int .i64 0, .slice none 0 0, .int .i64 3]) (by simp [results, Tryz.results5, go_sem]) rfl ?_
    have h := fil_err (W := W) (r := r) (w := w) (by rw [HEE.out]; decide) (Kp.refl No w)
    rw [HEE.out] at h
    exact h
  have hm60 : m ≤ 60 := by omega
  have CT := Lib.hid (contains_fill R m cr r (fun x => oB x 1 1000000) w hR (by omega) (fun v w' _ => filB_any v w'))
  cases ho : oB W 1 10000000
  rotate_left
  · have HEE := Lib.hid (show filE W r = 2 by rw [HE.out, if_neg h60, ho]; rfl)
    rw [ho] at OUT
    clear hR hl ho h60
    go_enter Tryz.func5, Tryz.ntmps5
    go_wp2_with fail
    with_reducible refine (OUT.out _).mono ?_
    rintro e w1 ⟨rfl, rfl⟩
    go_wp2_with fail
    refine bodyPost_ret (v := .tuple #[.int .i64 0, .slice none 0 0, .int .i64 2]) (by simp [results, Tryz.results5, go_sem]) rfl ?_
    have h := fil_err (W := W) (r := r) (by rw [HEE.out]; decide) (Kp.refl No w1)
    rw [HEE.out] at h
    exact h
  rw [ho] at OUT
  cases hb : r.any (fun x => oB x 1 1000000)
  rotate_left
  · have HEE := Lib.hid (show filE W r = 2 by rw [HE.out, if_neg h60, ho, hb]; rfl)
    rw [hb] at CT
    clear hR hl ho h60 hb
    go_enter Tryz.func5, Tryz.ntmps5
    go_wp2_with fail
    with_reducible refine (OUT.out _).mono ?_
    rintro e w1 ⟨rfl, hw⟩
    subst hw
    go_wp2_with fail
    with_reducible refine CT.out.mono ?_
    rintro e w2 ⟨rfl, k2⟩
    go_wp2_with fail
    refine bodyPost_ret (v := .tuple #[.int .i64 0, .slice none 0 0, .int .i64 2]) (by simp [results, Tryz.results5, go_sem]) rfl ?_
    have h := fil_err (W := W) (r := r) (by rw [HEE.out]; decide) k2
    rw [HEE.out] at h
    exact h
  rw [hb] at CT
  have HE2 := Lib.hid (show filE W r = if W - 2 * r.sum < 0 then 4 else 0 by rw [HE.out, if_neg h60, ho, hb]; rfl)
  have hW : 1 ≤ W ∧ W ≤ 10000000 := by
    unfold oB at ho
    simp only [Bool.or_eq_false_iff, decide_eq_false_iff_not] at ho
    omega
  have hrr : ∀ x ∈ r, 1 ≤ x ∧ x ≤ 1000000 := fun x hx => by
    have := List.any_eq_false.1 hb x hx
    unfold oB at this
    simp only [Bool.or_eq_true, decide_eq_true_eq, not_or] at this
    omega
  have HRR := Lib.hid hrr
  have HBD := Lib.hid (fun k => sum_bd (M := 1000000) (r := r.take k) fun x hx => hrr x (List.mem_of_mem_take hx))
  clear hR hl ho h60 hb hrr HE
  go_enter Tryz.func5, Tryz.ntmps5
  go_wp2_with fail
  with_reducible refine (OUT.out _).mono ?_
  rintro e w1 ⟨rfl, hw⟩
  subst hw
  go_wp2_with fail
  with_reducible refine CT.out.mono ?_
  rintro e w2 ⟨rfl, k2⟩
  have HK2 := Lib.hid k2
  clear k2 CT OUT
  go_wp2_with fail
  go_loop [7, 28] (fun v i => ∃ k : Nat, k ≤ m ∧ i = .int .i64 (k : Nat) ∧ v = .int .i64 (W - 2 * (r.take k).sum)) (fun _ i => m - (intOf i).toNat)
  case atStart => exact ⟨0, by omega, rfl, by simp⟩
  case round =>
    obtain ⟨k, hk, rfl, rfl⟩ := hrel
    have hbd := HBD.out k
    have hkl : (r.take k).length ≤ 60 := by rw [List.length_take]; omega
    have hbd2 : 0 ≤ (r.take k).sum ∧ (r.take k).sum ≤ 60000000 := ⟨hbd.1, by omega⟩
    clear hbd
    by_cases hlt : k < m
    · obtain ⟨x, hx⟩ : ∃ x, r[k]? = some x := ⟨_, List.getElem?_eq_getElem (by rw [HL.out]; exact hlt)⟩
      obtain ⟨b, o, rfl, hb, hc⟩ := (HR.out.no HK2.out).2 k x hx
      have hx1 := HRR.out x (List.mem_of_getElem? hx)
      have HT := Lib.hid (sum_take_succ hx)
      clear hx
      generalize (r.take k).sum = T at *
      go_wp2_with fail
      go_round
      case rel => exact ⟨k + 1, by omega, by go_num, by rw [HT.out]; congr 1; omega⟩
      case measure => simp [intOf]; omega
    · obtain rfl : k = m := by omega
      have hrt : r.take k = r := List.take_of_length_le (by rw [HL.out]; exact Nat.le_refl _)
      rw [hrt] at hbd2 ⊢
      have HRT := Lib.hid hrt
      clear hrt
      by_cases hneg : W - 2 * r.sum < 0
      · have HEE := Lib.hid (show filE W r = 4 by rw [HE2.out, if_pos hneg])
        go_wp2_with fail
        refine bodyPost_ret (v := .tuple #[.int .i64 0, .slice none 0 0, .int .i64 4]) (by simp [results, Tryz.results5, go_sem]) rfl ?_
        have h := fil_err (W := W) (r := r) (by rw [HEE.out]; decide) HK2.out
        rw [HEE.out] at h
        exact h
      · have HEE := Lib.hid (show filE W r = 0 by rw [HE2.out, if_neg hneg])
        have hge := gap_le (w := W) (r := r) (by omega)
        have HFG := Lib.hid (show filG W r = gapN W r by unfold filG; rw [if_pos HEE.out])
        have HFL := Lib.hid (show filL W r = posN (gapN W r) (filX W r) r by unfold filL; rw [if_pos HEE.out])
        have hgap : (W - 2 * r.sum) / ((k : Int) + 1) = gapN W r := by unfold gapN; rw [if_neg hneg, HL.out]
        have hfx : filX W r = (W - 2 * r.sum - gapN W r * max ((k : Int) - 1) 0) / 2 := by unfold filX; rw [HL.out]
        have hg7 : gapN W r ≤ 10000000 := by
          rw [← hgap]
          have := Int.ediv_le_self (a := W - 2 * r.sum) ((k : Int) + 1) (by omega)
          omega
        obtain ⟨mk, hmk⟩ : ∃ mk, mk = max ((k : Int) - 1) 0 := ⟨_, rfl⟩
        have hmkb : 0 ≤ mk ∧ mk ≤ 60 := by omega
        have hmki : (if (k : Int) - 1 < 0 then 0 else (k : Int) - 1) = mk := by rw [hmk]; split <;> omega
        have hmke : max ((k : Int) - 1) 0 = mk := hmk.symm
        have hmki2 : (if (k : Int) ≤ 0 then 0 else (k : Int) - 1) = mk := by rw [hmk]; split <;> omega
        rw [hmke] at hfx
        have HG := Lib.hid hge.1
        generalize gapN W r = G at *
        obtain ⟨gm, hgm⟩ : ∃ gm, gm = G * mk := ⟨_, rfl⟩
        have hgm2 : 0 ≤ gm ∧ gm ≤ 600000000 := by
          rw [hgm]
          refine ⟨Int.mul_nonneg hge.1 hmkb.1, ?_⟩
          have h1 := Int.mul_le_mul_of_nonneg_left hmkb.2 hge.1
          omega
        have hgme : G * mk = gm := hgm.symm
        have hwq : 0 ≤ W - 2 * r.sum - gm := by
          have h1 : G * mk ≤ G * (((r.length : Int)) + 1) := Int.mul_le_mul_of_nonneg_left (by rw [HL.out]; omega) hge.1
          omega
        rw [hgme] at hfx
        have hfxe : (W - 2 * r.sum - gm) / 2 = filX W r := hfx.symm
        have hxb : 0 ≤ filX W r ∧ filX W r ≤ 10000000 := by omega
        have HHG := Lib.hid hge
        clear hgm hmk hfx hge
        generalize filX W r = X at *
        generalize hSS : r.sum = SS at *
        have HSS := Lib.hid hSS
        clear hSS
        go_wp2_with fail
        have HPN := Lib.hid (show posN G X (r.take 0) = [] by rw [List.take_zero]; rfl)
        have HPR := Lib.hid (show posN G X (r.take k) = posN G X r by rw [HRT.out])
        have HPL := Lib.hid (fun j => pos_len G X (r.take j))
        have HPT := Lib.hid (fun j a h => pos_take G X r j a h)
        have HW1 := Lib.hid (show w1.heap.size ≤ w2.heap.size from HK2.out.size)
        have hgk : ∀ j : Nat, j ≤ k → 0 ≤ G * j ∧ G * j ≤ 600000000 := fun j hj => by
          refine ⟨Int.mul_nonneg HG.out (by omega), ?_⟩
          have h1 := Int.mul_le_mul_of_nonneg_right hg7 (show (0 : Int) ≤ j by omega)
          omega
        have HGK := Lib.hid hgk
        clear hgap hfxe hgme hmki hmki2 hmke hgk
        go_loopw [5, 11, 55] (fun v x i wr => ∃ (j : Nat) (A : Option Addr) (c : Nat), j ≤ k ∧ i = .int .i64 (j : Nat) ∧ v = .slice A j c ∧ x = .int .i64 (X + 2 * (r.take j).sum + G * j) ∧ OwL wr w1.heap.size (.slice A j c) (posN G X (r.take j)) ∧ Kp No w1 wr) (fun _ _ i _ => k - (intOf i).toNat)
        case atStart => exact ⟨0, none, 0, by omega, rfl, rfl, by simp, by rw [HPN.out]; exact World.ownsRow_nil _ _ _ _, HK2.out⟩
        case round =>
          obtain ⟨j, A, c, hj, rfl, rfl, rfl, hown, hkp⟩ := hrel
          have HO := Lib.hid hown
          have HKP := Lib.hid hkp
          have hbj := HBD.out j
          have hjl : (r.take j).length ≤ 60 := by rw [List.length_take]; omega
          have hbj2 : 0 ≤ (r.take j).sum ∧ (r.take j).sum ≤ 60000000 := ⟨hbj.1, by omega⟩
          have hgj := HGK.out j hj
          clear hown hkp hbj
          by_cases hlt : j < k
          · obtain ⟨x, hx⟩ : ∃ x, r[j]? = some x := ⟨_, List.getElem?_eq_getElem (by rw [HL.out]; exact hlt)⟩
            obtain ⟨b, o, rfl, hb, hc⟩ := (HR.out.no HKP.out).2 j x hx
            have hx1 := HRR.out x (List.mem_of_getElem? hx)
            have HT := Lib.hid (sum_take_succ hx)
            have HPJ := Lib.hid (HPT.out j x hx)
            have HLJ := Lib.hid (show (posN G X (r.take j)).length = j by rw [HPL.out, List.length_take, HL.out]; omega)
            have HG1 := Lib.hid (show G * ((j + 1 : Nat) : Int) = G * j + G by rw [Int.natCast_succ, Int.mul_add, Int.mul_one])
            clear hx
            generalize (r.take j).sum = T at *
            generalize hgjj : G * (j : Int) = gj at *
            clear hgjj
            have hg0 := HG.out
            go_wp2_with (at_builtin; refine stop_in ?_)
            refine stop_out ?_
            refine push_long rfl _ _ rfl w1.heap.size A j c (posN G X (r.take j)) (X + 2 * T + gj + x) rfl rfl rfl HLJ.out HO.out (by omega) HKP.out (Nat.le_refl _) HKP.out.size ?_
            intro g c' w4 hown' hk4 _
            have HO4 := Lib.hid hown'
            have HK4 := Lib.hid hk4
            clear hown' hk4 hb hc
            go_wp2_with fail
            go_roundw
            case rel =>
              refine ⟨j + 1, _, c', by omega, by go_num, rfl, ?_, ?_, HK4.out⟩
              · rw [HT.out, HG1.out]; congr 1; omega
              · rw [HPJ.out]; exact HO4.out
            case measure => simp [intOf]; omega
          · obtain rfl : j = k := by omega
            go_wp2_with fail
            refine bodyPost_ret (v := .tuple #[.int .i64 G, .slice A j c, .int .i64 0]) (by simp [results, Tryz.results5, go_sem]) rfl ?_
            refine ⟨A, c, ?_, ?_, HKP.out⟩
            · rw [HFG.out, HFL.out, HEE.out, pos_len, HL.out]
            · rw [HFL.out, pos_len, HL.out, ← HPR.out]; exact HO.out
end Go.Proofs.YtakgcnjpmpcekaaGreat
