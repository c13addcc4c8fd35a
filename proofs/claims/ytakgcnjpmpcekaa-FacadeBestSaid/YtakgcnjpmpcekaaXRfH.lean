/- Chapter 24: the document's all. -/
import Derived.Test.YtakgcnjpmpcekaaXLibHxM
namespace Go.Proofs.Ytakgcnjpmpcekaa
open Go.RowKit Go.Kq

def paN (j most k : Nat) : List (List Nat) := (List.range k).flatMap fun m => (allN j (most - (m + 1))).map ((m + 1) :: ·)
theorem pa_succ (j most k : Nat) : paN j most (k + 1) = paN j most k ++ (allN j (most - (k + 1))).map ((k + 1) :: ·) := by
  unfold paN
  rw [List.range_succ, List.flatMap_append]
  simp
theorem pa_all (j most : Nat) : paN j most most = allN (j + 1) most := rfl
theorem all_len : ∀ (j most : Nat), most ≤ 16 → (allN j most).length ≤ 16 ^ j ∧ ∀ k, k ≤ most → (paN j most k).length ≤ k * 16 ^ j
  | 0, most, _ => ⟨by simp [allN], fun k _ => by
    induction k with
    | zero => simp [paN]
    | succ k ih =>
      have := ih (by omega)
      rw [pa_succ, List.length_append, List.length_map]
      simp [allN] at *
      omega⟩
  | j + 1, most, hm => by
    have hp : ∀ (i m : Nat), m ≤ 16 → (∀ q, q ≤ 16 → (allN i q).length ≤ 16 ^ i) → ∀ k, k ≤ m → (paN i m k).length ≤ k * 16 ^ i := fun i m hm hi k hk => by
      induction k with
      | zero => simp [paN]
      | succ k ih =>
        have h1 := ih (by omega)
        have h2 := hi (m - (k + 1)) (by omega)
        rw [pa_succ, List.length_append, List.length_map, Nat.succ_mul]
        omega
    have ihl : ∀ q, q ≤ 16 → (allN j q).length ≤ 16 ^ j := fun q hq => (all_len j q hq).1
    have h1 : ∀ q, q ≤ 16 → (allN (j + 1) q).length ≤ 16 ^ (j + 1) := fun q hq => by
      have h := hp j q hq ihl q (Nat.le_refl _)
      rw [pa_all] at h
      have h2 : q * 16 ^ j ≤ 16 * 16 ^ j := Nat.mul_le_mul_right _ hq
      rw [Nat.pow_succ]
      omega
    exact ⟨h1 most hm, hp (j + 1) most hm h1⟩
theorem all_each : ∀ (j most : Nat), ∀ S ∈ allN j most, S.length = j
  | 0, _, S, h => by
    simp [allN] at h
    subst h
    rfl
  | j + 1, most, S, h => by
    simp only [allN, List.mem_flatMap, List.mem_map] at h
    obtain ⟨m, _, T, hT, rfl⟩ := h
    rw [List.length_cons, all_each j _ T hT]
theorem intP_len (P : List (List Nat)) : (intP P).length = P.length := List.length_map _
theorem intP_app (P Q : List (List Nat)) : intP (P ++ Q) = intP P ++ intP Q := List.map_append
theorem row_one (w : World) : RowL w.heap.size (w.alloc (.cells #[.slice none 0 0] 22)) (.slice (some ⟨w.heap.size, 0, none⟩) 1 1) [[]] :=
  ⟨[.slice none 0 0], rfl, own_made (e := 22) (n := 1) (s := 1) (xs := [Value.slice none 0 0]) w rfl (Nat.le_refl _) (by unfold maxLen; omega), fun i u S hu hS => by
    match i with
    | 0 =>
      simp at hu hS
      subst hu hS
      exact ⟨none, 0, 0, rfl, fun _ => ⟨rfl, rfl⟩, ⟨rfl, fun i v h => by simp at h⟩, fun b o e => by cases e⟩
    | i + 1 => simp at hu⟩
set_option maxHeartbeats 8000000 in
set_option maxRecDepth 100000 in
theorem rall_any : ∀ (j most : Nat) (w : World), j ≤ 4 → most ≤ 16 → Calls Try.prog 44 #[.int .i64 (j : Nat), .int .i64 (most : Nat)] w fun e w' => ∃ A c, e = .returned (.slice A (allN j most).length c) ∧ RowL w.heap.size w' (.slice A (allN j most).length c) (intP (allN j most)) ∧ Kp No w w' := by
  intro j
  induction j with
  | zero =>
    intro most w _ _
    go_enter Try.func44, Try.ntmps44
    go_wp2_with fail
    go_ret
    exact ⟨some ⟨w.heap.size, 0, none⟩, 1, rfl, row_one w, Kp.alloc _ _ _⟩
  | succ j ih =>
    intro most w hj hm
    have IH := Lib.hid (fun mr w0 (h : mr ≤ 16) => ih mr w0 (by omega) h)
    have h4 : 16 ^ j ≤ 4096 := by
      obtain rfl | rfl | rfl | rfl : j = 0 ∨ j = 1 ∨ j = 2 ∨ j = 3 := by omega
      all_goals decide
    have HPL := Lib.hid (show ∀ k, k ≤ most → (paN j most k).length ≤ 65536 from fun k hk => by
      have h := (all_len j most hm).2 k hk
      have h2 := Nat.mul_le_mul (show k ≤ 16 by omega) h4
      omega)
    obtain ⟨n1, hn1⟩ : ∃ n1 : Nat, n1 = j + 1 := ⟨_, rfl⟩
    have hn1i : (n1 : Int) - 1 = (j : Int) := by omega
    have d0 : ¬ (n1 : Int) = 0 := by omega
    have d1 : ((n1 : Int) == 0) = false := by simp; omega
    rw [← hn1]
    have HALL := Lib.hid (show paN j most most = allN n1 most by rw [hn1]; rfl)
    clear hn1 ih h4
    go_enter Try.func44, Try.ntmps44
    go_wp2_with fail
    go_loopw [5, 6] (fun v i wr => ∃ (kk : Nat) (A1 : Option Addr) (c1 : Nat), kk ≤ most ∧ i = .int .i64 ((kk : Int) + 1) ∧ v = .slice A1 (paN j most kk).length c1 ∧ RowL w.heap.size wr (.slice A1 (paN j most kk).length c1) (intP (paN j most kk)) ∧ Kp No w wr) (fun _ i _ => most + 1 - (intOf i).toNat)
    case atStart => exact ⟨0, none, 0, by omega, rfl, rfl, RowL.nil _ _, Kp.refl _ _⟩
    case round =>
      obtain ⟨w1, rfl⟩ : ∃ w1, w1 = wr := ⟨_, rfl⟩
      obtain ⟨kk, A1, c1, hk, rfl, rfl, hrow, hkp⟩ := hrel
      have HRW := Lib.hid hrow
      have HKP := Lib.hid hkp
      clear hrow hkp
      by_cases hlt : kk < most
      · obtain ⟨mr, hmr⟩ : ∃ mr, mr = most - (kk + 1) := ⟨_, rfl⟩
        have hmri : (most : Int) - ((kk : Int) + 1) = (mr : Int) := by omega
        have I1 := Lib.hid (IH.out mr w1 (by omega))
        have HPS := Lib.hid (show paN j most (kk + 1) = paN j most kk ++ (allN j mr).map ((kk + 1) :: ·) by rw [pa_succ, hmr])
        have hbd := HPL.out (kk + 1) hlt
        rw [HPS.out, List.length_append, List.length_map] at hbd
        have HEA := Lib.hid (all_each j mr)
        clear hmr
        generalize allN j mr = L2 at *
        obtain ⟨q2, hq2⟩ : ∃ q2, L2.length = q2 := ⟨_, rfl⟩
        obtain ⟨p2, hp2⟩ : ∃ p2, (paN j most kk).length = p2 := ⟨_, rfl⟩
        rw [hq2] at hbd I1
        rw [hp2] at hbd HRW
        have HQ2 := Lib.hid hq2
        have HP2 := Lib.hid hp2
        clear hq2
        go_wp2_with fail
        refine (I1.out).mono ?_
        rintro e w2 ⟨A2, c2, rfl, hrow2, k2⟩
        have HR2 := Lib.hid (hrow2.rd)
        have HRW2 := Lib.hid (HRW.out.no k2)
        have HKP2 := Lib.hid (HKP.out.tr k2)
        have HSZ := Lib.hid (show w1.heap.size ≤ w2.heap.size from k2.size)
        have HOB0 := Lib.hid (show ∀ b, (Value.slice A1 p2 c1).ownBlock = some b → b < w1.heap.size ∨ w2.heap.size ≤ b from fun b hb => .inl (by
          obtain ⟨us, _, h2, _⟩ := HRW.out
          rw [intP_len, HP2.out] at h2
          exact (own_ge h2 hb).2))
        clear hrow2 k2 I1
        go_wp2_with fail
        go_loopw [5, 8] (fun v i wr => ∃ (i1 : Nat) (A3 : Option Addr) (c3 : Nat), i1 ≤ q2 ∧ i = .int .i64 (i1 : Nat) ∧ v = .slice A3 (p2 + i1) c3 ∧ RowL w.heap.size wr (.slice A3 (p2 + i1) c3) (intP (paN j most kk ++ (L2.take i1).map ((kk + 1) :: ·))) ∧ Kp No w wr ∧ Kp (fun b => b < w1.heap.size ∨ w2.heap.size ≤ b) w2 wr ∧ ∀ b, (Value.slice A3 (p2 + i1) c3).ownBlock = some b → b < w1.heap.size ∨ w2.heap.size ≤ b) (fun _ i _ => q2 - (intOf i).toNat)
        case atStart => exact ⟨0, A1, c1, by omega, rfl, rfl, by rw [List.take_zero, List.map_nil, List.append_nil]; exact HRW2.out, HKP2.out, Kp.refl _ _, HOB0.out⟩
        case round =>
          obtain ⟨i1, A3, c3, hi1, rfl, rfl, hrow, hkp, hkt, hob⟩ := hrel
          have HKT := Lib.hid hkt
          have HOB := Lib.hid hob
          have HR3 := Lib.hid hrow
          have HK3 := Lib.hid hkp
          clear hrow hkp hkt hob
          by_cases hlt2 : i1 < q2
          · obtain ⟨S, hS⟩ : ∃ S, L2[i1]? = some S := ⟨_, List.getElem?_eq_getElem (by rw [HQ2.out]; exact hlt2)⟩
            have hSl := HEA.out S (List.mem_of_getElem? hS)
            obtain ⟨b, o, A4, n4, c4, rfl, hb4, hc4, hnil4, r4, _⟩ := (HR2.out.kp HKT.out (fun b h1 h2 h => by rcases h with h | h <;> omega)).2 i1 (cI S) (intP_get hS)
            have hn4 : n4 ≤ 4 := by have : n4 = j := by rw [← r4.1, cI_len, hSl]
                                    omega
            have HLN := Lib.hid (show (intP (paN j most kk ++ (L2.take i1).map ((kk + 1) :: ·))).length = p2 + i1 by rw [intP_len, List.length_append, List.length_map, List.length_take, HP2.out, HQ2.out]; omega)
            have HSN := Lib.hid (show intP (paN j most kk ++ (L2.take (i1 + 1)).map ((kk + 1) :: ·)) = intP (paN j most kk ++ (L2.take i1).map ((kk + 1) :: ·)) ++ [[((kk : Int) + 1)] ++ cI S] by
              rw [List.take_add_one, hS, List.map_append, ← List.append_assoc, intP_app]
              rfl)
            have R4 := Lib.hid r4
            have hbl := hb4.2
            have HNIL := Lib.hid hnil4
            clear hS r4 hb4 hnil4 hSl
            go_wp2_with (at_builtin; refine stop_in ?_)
            refine stop_out ?_
            refine push_all rfl _ _ rfl wr.heap.size (some ⟨wr.heap.size, 0, none⟩) A4 1 1 n4 c4 [(kk : Int) + 1] (cI S) rfl rfl rfl R4.out.1 (own_one wr _) HNIL.out (R4.out.no (Kp.alloc _ _ _)) (by omega) (by omega) (w0 := wr) (Kp.alloc No wr _) (Nat.le_refl _) (Kp.alloc No wr _).size ?_
            intro A5 c5 w5 ho5 hk5
            have HO5 := Lib.hid ho5
            have HK5 := Lib.hid hk5
            have hl5 : ([(kk : Int) + 1] ++ cI S).length = 1 + n4 := by rw [List.length_append, R4.out.1]; rfl
            have HL5 := Lib.hid hl5
            have HR5 := Lib.hid (HR3.out.no hk5)
            have HNB := Lib.hid (show ∀ b, (Value.slice A3 (p2 + i1) c3).ownBlock = some b → b < wr.heap.size from fun b hb => by
              obtain ⟨us, _, h2, _⟩ := HR3.out
              rw [HLN.out] at h2
              exact (own_ge h2 hb).2)
            obtain ⟨us, hu1, hu2, hu3⟩ := HR5.out
            rw [HLN.out] at hu1 hu2
            have HU := Lib.hid (And.intro hu1 (And.intro hu2 hu3))
            obtain ⟨i2, hi2, hz21, hz22, hz23⟩ := info_parts infoSl
            clear ho5 hk5 hu1 hu2 hu3 hl5 hc4
            go_wp2_with (at_builtin; refine stop_in ?_)
            refine stop_out ?_
            refine wpL_append_any rfl _ _ 32 rfl w.heap.size 22 i2 (.slice none 0 0) 1 24 Try.underlying32 hi2 hz21 hz22 hz23 rfl (by decide) (.slice A3 (p2 + i1) c3) (p2 + i1) us rfl (HU.out.2.1.alloc _) (some ⟨w5.heap.size, 0, none⟩) 1 1 [.slice A5 (1 + n4) c5] rfl rfl (fun h => by cases h) (fun ad had j u hu => by cases had; exact new_cells w5 [.slice A5 (1 + n4) c5] (by unfold maxLen; simp) j u hu) (fun u hu => by simp at hu; subst hu; rfl) (by unfold maxLen; omega) (by omega) (by have h2 := HK3.out.size; have h3 := HK5.out.size; simp; omega) ?_
            intro v' w6 hown hgrow hat
            have hrd := own_rdi HO5.out HL5.out
            have R6 := Lib.hid (RowL.snoc (B := wr.heap.size) (A := A5) (n := 1 + n4) (c := c5) HK3.out.size HLN.out (own_nilc HO5.out) (hrd.no (Kp.alloc No w5 _)) (fun b o e => by
              subst e
              have h := own_ge HO5.out (g := b) (by
                rcases HO5.out.2 with ⟨hv, _⟩ | ⟨g2, _, _, hv, _⟩
                · cases hv
                · injection hv with hv
                  injection hv with hv
                  injection hv with e1 e2
                  subst e1 e2
                  rfl)
              exact ⟨h.1, Nat.lt_of_lt_of_le h.2 (Kp.alloc No w5 _).size⟩) HNB.out hgrow hat us (by rw [HU.out.1, HLN.out]) (fun j u S hu hS => (HU.out.2.2 j u S hu hS).no (Kp.alloc No w5 _)) hown)
            have K6 := Lib.hid (kp_app (HK3.out.tr HK5.out) HU.out.2.1 (Nat.le_refl _) hgrow)
            have KT6 := Lib.hid (show Kp (fun b => b < w1.heap.size ∨ w2.heap.size ≤ b) w2 w6 from (HKT.out.tr (HK5.out.mono fun _ _ h => h.elim)).tr ((Kp.alloc _ _ _).tr (Kp.grown hgrow fun b hb _ => HOB.out b hb)))
            have OB6 := Lib.hid (show ∀ b, v'.ownBlock = some b → b < w1.heap.size ∨ w2.heap.size ≤ b from fun b hb => by
              rcases hat with hat | hat
              · exact HOB.out b (hat ▸ hb)
              · rw [hat] at hb
                injection hb with hb
                have h2 := HKT.out.size
                have h3 := HK5.out.size
                rw [World.size_alloc] at hb
                exact .inr (by omega))
            obtain ⟨A6, c6, rfl, _, _, _⟩ := own_form hown
            clear hown hgrow hat hrd HU HNB hi2 hz21 hz22 hz23
            go_wp2_with fail
            go_roundw
            case rel => exact ⟨i1 + 1, A6, c6, by omega, by go_num, rfl, by rw [HSN.out]; exact R6.out, K6.out, KT6.out, OB6.out⟩
            case measure => simp [intOf]; omega
          · obtain rfl : q2 = i1 := by omega
            have HT := Lib.hid (show L2.take q2 = L2 from List.take_of_length_le (by rw [HQ2.out]; exact Nat.le_refl _))
            have hlen : p2 + q2 = (paN j most (kk + 1)).length := by rw [HPS.out, List.length_append, List.length_map, HP2.out, HQ2.out]
            have HLEN := Lib.hid hlen
            clear hlen
            go_wp2_with fail
            go_roundw
            case rel => exact ⟨kk + 1, A3, c3, by omega, by go_num, by rw [HLEN.out], by rw [← HLEN.out, HPS.out, ← HT.out]; exact HR3.out, HK3.out⟩
            case measure => simp [intOf]; omega
      · obtain rfl : most = kk := by omega
        go_wp2_with fail
        go_ret
        exact ⟨A1, c1, by rw [← HALL.out]; rfl, by rw [← HALL.out]; exact HRW.out, HKP.out⟩
end Go.Proofs.Ytakgcnjpmpcekaa
