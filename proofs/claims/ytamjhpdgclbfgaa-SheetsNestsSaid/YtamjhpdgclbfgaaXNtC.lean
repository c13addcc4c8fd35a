/- Chapter 09: the reference's Groups: the walk. -/
import Derived.Test.YtamjhpdgclbfgaaXNtB
namespace Go.Proofs.Ytamjhpdgclbfgaa
open Go.RowKit Go.Kq

theorem map_snoc (T : List Nat) (g : Nat) : T.map natI ++ [natI g] = ((T ++ [g]).map Int.ofNat).map (Value.int .i64) := by
  simp [natI]
theorem natl_news {w : World} {A : Option Addr} {n : Nat} {S : List Nat} (h : RdI .i64 w A n (S.map Int.ofNat)) : ∀ ad, A = some ad → ∀ j u, (S.map natI)[j]? = some u → w.cell? (ad.add j) = some u := fun ad had j u hu => by
  rw [List.getElem?_map] at hu
  cases hS : S[j]? with
  | none => rw [hS] at hu; cases hu
  | some x =>
    rw [hS] at hu
    cases hu
    obtain ⟨b, o, hA, _, hc⟩ := h.2 j _ (nat_at hS)
    rw [had] at hA
    cases hA
    rw [add_at]
    exact hc
set_option maxHeartbeats 8000000 in
set_option maxRecDepth 100000 in
theorem groups_any (n : Nat) (w : World) (hn : n ≤ 7) :
    Calls Try.prog 31 #[.int .i64 (n : Nat)] w fun e w' => ∃ A m c, e = .returned (.slice A m c) ∧ RdL w.heap.size w' A m (grpR n) ∧ Kp No w w' := by
  obtain ⟨i1, hi1, hz11, hz12, hz13⟩ := info_parts infoIn
  obtain ⟨i2, hi2, hz21, hz22, hz23⟩ := info_parts infoSl
  have hc0 : (w.alloc (.cells #[.slice none 0 0] 57)).cell? ⟨w.heap.size, 0, none⟩ = some (.slice none 0 0) := by go_simp
  have hR0 : RdL w.heap.size (w.alloc (.cells #[.slice none 0 0] 57)) (some ⟨w.heap.size, 0, none⟩) 1 (grpR 0) := ⟨rfl, fun i S hS => by
    match i, hS with
    | 0, hS =>
      simp [grpR] at hS
      subst hS
      exact ⟨w.heap.size, 0, none, 0, 0, rfl, ⟨Nat.le_refl _, by simp⟩, hc0, fun _ => ⟨rfl, rfl⟩, RdI.nil _ _, fun b o e => by cases e⟩
    | i + 1, hS => simp [grpR] at hS⟩
  have R0 := Lib.hid hR0
  have K0 := Lib.hid (Kp.alloc No w (.cells #[.slice none 0 0] 57))
  clear hR0 hc0
  go_enter Try.func31, Try.ntmps31
  go_wp2_with fail
  generalize w.alloc (.cells #[.slice none 0 0] 57) = w0 at *
  go_loopw [3, 4] (fun v s wr => ∃ (i : Nat) (A : Option Addr) (c : Nat), i ≤ n ∧ s = .int .i64 i ∧ v = .slice A (grpR i).length c ∧ RdL w.heap.size wr A (grpR i).length (grpR i) ∧ Kp No w0 wr) (fun _ s _ => n - (intOf s).toNat)
  case atStart => exact ⟨0, _, _, by omega, rfl, rfl, R0.out, Kp.refl _ _⟩
  case round =>
    obtain ⟨i, A, c, hi, rfl, rfl, hrd, hkp⟩ := hrel
    obtain ⟨wo, rfl⟩ : ∃ wo : World, wo = wr := ⟨_, rfl⟩
    have HRD := Lib.hid hrd
    have HKP := Lib.hid hkp
    clear hrd hkp
    by_cases hlt : i < n
    · have hlt' : (i : Int) < n := by omega
      have hLL := grpR_len i (by omega)
      have hL8 : (grpR i).length ≤ 2097152 := Nat.le_trans hLL (Nat.pow_le_pow_right (by omega) (show i ≤ 7 by omega))
      have HM := Lib.hid (grpR_mem i)
      obtain ⟨L, hL⟩ : ∃ L, grpR i = L := ⟨_, rfl⟩
      have HS := Lib.hid (show grpR (i + 1) = nxt L by rw [← hL]; rfl)
      rw [hL] at HRD HM hL8 ⊢
      clear hLL hL
      go_wp2_with fail
      go_loopw [5, 6] (fun v s wr => ∃ k : Nat, k ≤ L.length ∧ s = .int .i64 k ∧ RowL wo.heap.size wr v (nxt (L.take k)) ∧ Kp No wo wr) (fun _ s _ => L.length - (intOf s).toNat)
      case atStart => exact ⟨0, by omega, rfl, RowL.nil _ _, Kp.refl _ _⟩
      case round =>
        obtain ⟨k, hk, rfl, hR, hkp⟩ := hrel
        have HR := Lib.hid hR
        have KP := Lib.hid hkp
        clear hR hkp
        by_cases hkl : k < L.length
        · obtain ⟨T, hT⟩ : ∃ T, L[k]? = some T := ⟨_, List.getElem?_eq_getElem hkl⟩
          have hkl' : (k : Int) < L.length := by omega
          obtain ⟨b, o, A', n', c', rfl, hbs, hcc, hnn, hri, hbA⟩ := HRD.out.2 k T hT
          obtain ⟨hTi, hTc⟩ := HM.out T (List.mem_of_getElem? hT)
          have hTn : T.length = n' := nat_len hri
          have HNS := Lib.hid (nxt_snoc hT)
          have hNL : (nxt (L.take k)).length ≤ 16777216 := by
            have h1 := nxt_len (i := 7) (M := L.take k) fun U hU => by have := (HM.out U (List.mem_of_mem_take hU)).2; omega
            have h2 : (L.take k).length ≤ L.length := by rw [List.length_take]; omega
            omega
          obtain ⟨NX, hNX⟩ : ∃ NX, nxt (L.take k) = NX := ⟨_, rfl⟩
          rw [hNX] at HR HNS hNL
          have HCC := Lib.hid hcc
          have HRI := Lib.hid hri
          have HNN := Lib.hid hnn
          clear hNX hcc hri hnn hbA hT HM HRD
          go_wp2_with fail
          go_loopw [5, 7] (fun v s wr => ∃ g : Nat, g ≤ cntF T + 1 ∧ s = .int .i64 g ∧ RowL wo.heap.size wr v (NX ++ (List.range g).map fun g => T ++ [g]) ∧ Kp No wo wr) (fun _ s _ => cntF T + 1 - (intOf s).toNat)
          case atStart => exact ⟨0, by omega, rfl, by simpa using HR.out, KP.out⟩
          case round =>
            obtain ⟨g, hg, rfl, hR2, hkp2⟩ := hrel
            clear HR KP
            have HR := Lib.hid hR2
            have KP := Lib.hid hkp2
            have cO := hkp2.cell HCC.out id
            obtain ⟨av, cv, rfl⟩ := hR2.form
            have hCO := Lib.hid (count_any A' n' c' T wr (HRI.out.no hkp2) (by omega) (fun s hs => by have := cntF_lt s hs; omega))
            clear hR2 hkp2
            have hml : (NX ++ (List.range g).map fun g => T ++ [g]).length ≤ 16777300 := by simp; omega
            obtain ⟨m, hm⟩ : ∃ m, (NX ++ (List.range g).map fun g => T ++ [g]).length = m := ⟨_, rfl⟩
            rw [hm] at hml ⊢
            go_wp2_with fail
            with_reducible refine hCO.out.mono ?_
            rintro e w1 ⟨rfl, hw1⟩
            subst hw1
            clear hCO
            by_cases hgc : g ≤ cntF T
            · have hgc' : (g : Int) ≤ (cntF T : Int) := by omega
              have hgs : IntKind.i64.wrap ((g : Int) + 1) = (g : Int) + 1 := by rw [IntKind.wrap_i64]; omega
              have he := own_empty (w := w1) (base := w1.heap.size) (e := 3) (size := 1) (Nat.le_refl _)
              obtain ⟨w2, hw2⟩ : ∃ w2, w1.alloc (.cells #[] 3) = w2 := ⟨_, rfl⟩
              have k2 : Kp No w1 w2 := by rw [← hw2]; exact Kp.alloc _ _ _
              have cO2 := k2.cell cO id
              rw [hw2] at he
              have HE := Lib.hid he
              have K2 := Lib.hid k2
              clear he k2 cO
              go_wp2_with (at_builtin; refine stop_in ?_)
              refine stop_out ?_
              clear hw2
              refine wpL_append_any rfl _ _ 57 rfl w1.heap.size 3 i1 (.int .i64 0) 1 8 Try.underlying57 hi1 hz11 hz12 hz13 rfl (by decide) (.slice (some ⟨w1.heap.size, 0, none⟩) 0 0) 0 [] rfl HE.out A' n' c' (T.map natI) rfl (by simp [hTn]) HNN.out (natl_news ((HRI.out.no KP.out).no K2.out)) (fun u hu => by obtain ⟨x, _, rfl⟩ := List.mem_map.1 hu; rfl) (by unfold maxLen; omega) (by omega) K2.out.size ?_
              intro v6 w6 hown6 hgrow6 _
              have K6 := Lib.hid (kp_app0 K2.out HE.out (Nat.le_refl _) hgrow6)
              rw [Nat.zero_add, List.nil_append] at hown6
              obtain ⟨a6, c6, rfl, _⟩ := own_form hown6
              have OW6 := Lib.hid hown6
              clear hown6 hgrow6 cO2 HE K2
              go_wp2_with (at_builtin; refine stop_in ?_)
              refine stop_out ?_
              refine wpL_append_any rfl _ _ 57 rfl w1.heap.size 3 i1 (.int .i64 0) 1 8 Try.underlying57 hi1 hz11 hz12 hz13 rfl (by decide) (.slice a6 n' c6) n' (T.map natI) rfl (OW6.out.alloc _) (some ⟨w6.heap.size, 0, none⟩) 1 1 [natI g] rfl rfl (fun h => by cases h) (fun ad had j u hu => by cases had; exact new_cells w6 [natI g] (by unfold maxLen; simp) j u hu) (fun u hu => by simp at hu; subst hu; rfl) (by unfold maxLen; omega) (by omega) (by have := K6.out.size; simp; omega) ?_
              intro v9 w9 hown9 hgrow9 _
              have K9 := Lib.hid (kp_app K6.out OW6.out (Nat.le_refl _) hgrow9)
              obtain ⟨a9, c9, rfl, _, _, hf9⟩ := own_form hown9
              obtain ⟨g9, rfl⟩ := hf9 (by omega)
              have OW9 := Lib.hid hown9
              have HNB := Lib.hid (show ∀ b, (Value.slice av m cv).ownBlock = some b → b < w1.heap.size from fun b hb => by
                obtain ⟨us, _, h2, _⟩ := HR.out
                rw [hm] at h2
                exact (own_ge h2 hb).2)
              obtain ⟨us, hu1, hu2, hu3⟩ := HR.out.no K9.out
              rw [hm] at hu1 hu2 hu3
              have HU := Lib.hid (And.intro hu1 (And.intro hu2 hu3))
              clear hown9 hgrow9 OW6 hu1 hu2 hu3 hf9
              go_wp2_with (at_builtin; refine stop_in ?_)
              refine stop_out ?_
              refine wpL_append_any rfl _ _ 66 rfl wo.heap.size 57 i2 (.slice none 0 0) 1 24 Try.underlying66 hi2 hz21 hz22 hz23 rfl (by decide) (.slice av m cv) m us rfl (HU.out.2.1.alloc _) (some ⟨w9.heap.size, 0, none⟩) 1 1 [.slice (some ⟨g9, 0, none⟩) (n' + 1) c9] rfl rfl (fun h => by cases h) (fun ad had j u hu => by cases had; exact new_cells w9 [.slice (some ⟨g9, 0, none⟩) (n' + 1) c9] (by unfold maxLen; simp) j u hu) (fun u hu => by simp at hu; subst hu; rfl) (by unfold maxLen; omega) (by omega) (by have := KP.out.size; have := K9.out.size; simp; omega) ?_
              intro v' w5 hown hgrow hat
              have hrow := OW9.out
              rw [map_snoc] at hrow
              have R5 := Lib.hid (RowL.snoc (B := w1.heap.size) KP.out.size hm (fun h => by cases h) ((RdI.of_own hrow).no (Kp.alloc No w9 _)) (fun b o e => by
                cases e
                have := own_ge OW9.out (g := g9) rfl
                exact ⟨this.1, Nat.lt_of_lt_of_le this.2 (Kp.alloc No w9 _).size⟩) HNB.out hgrow hat us (by rw [HU.out.1, hm]) (fun j u S hu hS => (HU.out.2.2 j u S hu hS).no (Kp.alloc No w9 _)) hown)
              have K5 := Lib.hid (kp_app (KP.out.tr K9.out) HU.out.2.1 (Nat.le_refl _) hgrow)
              clear hown hgrow hat hrow OW9 HU K9 K6 HNB
              go_wp2_with fail
              go_roundw
              case rel => exact ⟨g + 1, by omega, by go_num, by rw [List.range_succ, List.map_append, ← List.append_assoc]; exact R5.out, K5.out⟩
              case measure => simp [intOf]; omega
            · obtain rfl : g = cntF T + 1 := by omega
              have hgc' : ((cntF T : Int) + 1 ≤ (cntF T : Int)) = False := eq_false (by omega)
              have hks : IntKind.i64.wrap ((k : Int) + 1) = (k : Int) + 1 := by rw [IntKind.wrap_i64]; omega
              go_wp2_with fail
              go_roundw
              case rel => exact ⟨k + 1, by omega, by go_num, by rw [HNS.out, ← hm]; exact HR.out, KP.out⟩
              case measure => simp [intOf]; omega
        · obtain rfl : k = L.length := by omega
          have hR9 := HR.out
          rw [List.take_of_length_le (Nat.le_refl _), ← HS.out] at hR9
          obtain ⟨av, cv, rfl⟩ := hR9.form
          have HR9 := Lib.hid (hR9.rd.mono (g' := w.heap.size) (by have := K0.out.size; have := HKP.out.size; omega))
          have hi9 : IntKind.i64.wrap ((i : Int) + 1) = (i : Int) + 1 := by rw [IntKind.wrap_i64]; omega
          clear hR9 HR
          go_wp2_with fail
          go_roundw
          case rel => exact ⟨i + 1, av, cv, by omega, by go_num, rfl, HR9.out, HKP.out.tr KP.out⟩
          case measure => simp [intOf]; omega
    · obtain rfl : i = n := by omega
      go_wp2_with fail
      go_ret
      exact ⟨_, _, _, rfl, HRD.out, K0.out.tr HKP.out⟩
end Go.Proofs.Ytamjhpdgclbfgaa
