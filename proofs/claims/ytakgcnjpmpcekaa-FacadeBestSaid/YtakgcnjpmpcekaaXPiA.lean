/- Chapter 24: what is wrong with pipes: the program's and the reference's. -/
import Derived.Test.YtakgcnjpmpcekaaXFlBM
namespace Go.Proofs.Ytakgcnjpmpcekaa
open Go.RowKit Go.Kq

def pipB (r : List Int) (i : Nat) : Bool := oB (r.getD i 0) 1 1000000 || (decide (0 < i) && decide (r.getD (i - 1) 0 < r.getD i 0))
theorem pipE_eq (r : List Int) : pipE r = if 60 < r.length then 3 else if (List.range r.length).any (pipB r) then 2 else 0 := rfl
theorem pip_stop {r : List Int} {k : Nat} (h60 : ¬ 60 < r.length) (hk : k < r.length) (h : pipB r k = true) : pipE r = 2 := by
  rw [pipE_eq, if_neg h60, if_pos]
  rw [List.any_eq_true]
  exact ⟨k, List.mem_range.2 hk, h⟩
theorem pip_succ (r : List Int) (k : Nat) : (List.range (k + 1)).any (pipB r) = ((List.range k).any (pipB r) || pipB r k) := by
  rw [List.range_succ, List.any_append]
  simp
theorem pip_ok {r : List Int} (h : pipE r = 0) : r.length ≤ 60 ∧ ∀ x ∈ r, 1 ≤ x ∧ x ≤ 1000000 := by
  rw [pipE_eq] at h
  split at h
  · cases h
  · rename_i h1
    split at h
    · cases h
    · rename_i h2
      refine ⟨by omega, fun x hx => ?_⟩
      obtain ⟨k, hk, e⟩ := List.getElem_of_mem hx
      have hb : pipB r k = false := by
        have := List.any_eq_false.1 (Bool.eq_false_iff.2 h2) k (List.mem_range.2 hk)
        simpa using this
      have hg : r.getD k 0 = x := by rw [List.getD_eq_getElem?_getD, List.getElem?_eq_getElem hk]; exact e
      unfold pipB oB at hb
      rw [hg] at hb
      simp only [Bool.or_eq_false_iff, decide_eq_false_iff_not] at hb
      omega
theorem intD_at {r : List Int} {k : Nat} {x : Int} (h : r[k]? = some x) : r.getD k 0 = x := by
  rw [List.getD_eq_getElem?_getD, h]
  rfl
set_option maxHeartbeats 4000000 in
theorem fcheck_any (R : Option Addr) (m cr : Nat) (r : List Int) (w : World) (hR : RdI .i64 w R m r) (hm : m ≤ 100000) :
    Calls Try.prog 34 #[.slice R m cr] w fun e w' => e = .returned (.int .i64 (pipE r)) ∧ w' = w := by
  have hl := hR.1
  have HR := Lib.hid hR
  have HL := Lib.hid hl
  by_cases h60 : 60 < m
  · have HE := Lib.hid (show pipE r = 3 by rw [pipE_eq, if_pos (by omega)])
    rw [HE.out]
    clear hl hR
    go_enter Try.func34, Try.ntmps34
    go_wp2_with fail
    go_ret
    exact ⟨rfl, rfl⟩
  · have hm60 : m ≤ 60 := by omega
    clear hl hR h60
    go_enter Try.func34, Try.ntmps34
    go_wp2_with fail
    go_loop [10] (fun i => ∃ k : Nat, k ≤ m ∧ i = .int .i64 (k : Nat) ∧ (List.range k).any (pipB r) = false) (fun i => m - (intOf i).toNat)
    case atStart => exact ⟨0, by omega, rfl, rfl⟩
    case round =>
      obtain ⟨k, hk, rfl, hno⟩ := hrel
      have HN := Lib.hid hno
      clear hno
      by_cases hlt : k < m
      · obtain ⟨x, hx⟩ : ∃ x, r[k]? = some x := ⟨_, List.getElem?_eq_getElem (by rw [HL.out]; exact hlt)⟩
        obtain ⟨b, o, rfl, hb, hc⟩ := HR.out.2 k x hx
        have HD := Lib.hid (intD_at hx)
        have HST := Lib.hid (fun h => pip_stop (r := r) (k := k) (by rw [HL.out]; omega) (by rw [HL.out]; exact hlt) h)
        clear hx
        have OUT := Lib.hid (fun w0 => outside_any x 1 1000000 w0)
        cases hbad : oB x 1 1000000
        · rw [hbad] at OUT
          have HBAD := Lib.hid hbad
          clear hbad
          by_cases h0 : k = 0
          · subst h0
            simp only [Nat.add_zero] at hc
            have HP := Lib.hid (show pipB r 0 = false by unfold pipB; rw [HD.out, HBAD.out]; rfl)
            go_wp2_with fail
            with_reducible refine (OUT.out _).mono ?_
            rintro e w1 ⟨rfl, rfl⟩
            go_wp2_with fail
            go_round
            case rel => exact ⟨1, by omega, rfl, by rw [pip_succ r 0, HN.out, HP.out]; rfl⟩
            case measure => simp [intOf]; omega
          · have hk0 : 0 < k := by omega
            obtain ⟨y, hy⟩ : ∃ y, r[k - 1]? = some y := ⟨_, List.getElem?_eq_getElem (by rw [HL.out]; omega)⟩
            obtain ⟨b', o', hA', _, hc'⟩ := HR.out.2 (k - 1) y hy
            injection hA' with hA'
            injection hA' with hA1 hA2
            subst hA1 hA2
            have HDY := Lib.hid (intD_at hy)
            have hk1 : (k : Int) - 1 = ((k - 1 : Nat) : Int) := by omega
            clear hy h0
            by_cases hxy : y < x
            · have HP := Lib.hid (show pipB r k = true by unfold pipB; rw [HD.out, HDY.out, HBAD.out]; simp [hk0, hxy])
              have HE := Lib.hid (HST.out HP.out)
              go_wp2_with fail
              with_reducible refine (OUT.out _).mono ?_
              rintro e w1 ⟨rfl, rfl⟩
              go_wp2_with fail
              go_ret
              exact ⟨by rw [HE.out]; rfl, rfl⟩
            · have HP := Lib.hid (show pipB r k = false by unfold pipB; rw [HD.out, HDY.out, HBAD.out]; simp [hxy] <;> omega)
              go_wp2_with fail
              with_reducible refine (OUT.out _).mono ?_
              rintro e w1 ⟨rfl, rfl⟩
              go_wp2_with fail
              go_round
              case rel => exact ⟨k + 1, by omega, by go_num, by rw [pip_succ, HN.out, HP.out]; rfl⟩
              case measure => simp [intOf]; omega
        · rw [hbad] at OUT
          have HE := Lib.hid (HST.out (by unfold pipB; rw [HD.out, hbad]; rfl))
          clear hbad
          go_wp2_with fail
          with_reducible refine (OUT.out _).mono ?_
          rintro e w1 ⟨rfl, rfl⟩
          go_wp2_with fail
          go_ret
          exact ⟨by rw [HE.out]; rfl, rfl⟩
      · obtain rfl : k = m := by omega
        have HE := Lib.hid (show pipE r = 0 by rw [pipE_eq, if_neg (by rw [HL.out]; omega), HL.out, HN.out]; rfl)
        go_wp2_with fail
        go_ret
        exact ⟨by rw [HE.out]; rfl, rfl⟩
set_option maxHeartbeats 4000000 in
theorem pipes_any (R : Option Addr) (m cr : Nat) (r : List Int) (w : World) (hR : RdI .i64 w R m r) (hm : m ≤ 100000) :
    Calls Try.prog 42 #[.slice R m cr] w fun e w' => e = .returned (.int .i64 (pipE r)) ∧ ∃ q, w' = w.drewN q := by
  have hl := hR.1
  have HR := Lib.hid hR
  have HL := Lib.hid hl
  by_cases h60 : 60 < m
  · have HE := Lib.hid (show pipE r = 3 by rw [pipE_eq, if_pos (by omega)])
    rw [HE.out]
    clear hl hR
    go_enter Try.func42, Try.ntmps42
    go_wp2_with fail
    go_ret
    exact ⟨rfl, 0, rfl⟩
  · have hm60 : m ≤ 60 := by omega
    clear hl hR h60
    go_enter Try.func42, Try.ntmps42
    go_wp2_with fail
    go_loopw [3] (fun i wr => ∃ k : Nat, k ≤ m ∧ i = .int .i64 (k : Nat) ∧ (List.range k).any (pipB r) = false ∧ ∃ q, wr = w.drewN q) (fun i _ => m - (intOf i).toNat)
    case atStart => exact ⟨0, by omega, rfl, rfl, 0, rfl⟩
    case round =>
      obtain ⟨k, hk, rfl, hno, q, hq⟩ := hrel
      have HN := Lib.hid hno
      have HQ := Lib.hid hq
      have hkp : Kp No w wr := by rw [hq]; exact Kp.drewN _ _ _
      have HKP := Lib.hid hkp
      clear hno hq hkp
      by_cases hlt : k < m
      · obtain ⟨x, hx⟩ : ∃ x, r[k]? = some x := ⟨_, List.getElem?_eq_getElem (by rw [HL.out]; exact hlt)⟩
        obtain ⟨b, o, rfl, hb, hc⟩ := (HR.out.no HKP.out).2 k x hx
        have HD := Lib.hid (intD_at hx)
        have HST := Lib.hid (fun h => pip_stop (r := r) (k := k) (by rw [HL.out]; omega) (by rw [HL.out]; exact hlt) h)
        clear hx
        have OUT := Lib.hid (fun w0 => from_any x 1 1000000 w0)
        cases hbad : oB x 1 1000000
        · rw [hbad] at OUT
          have HBAD := Lib.hid hbad
          clear hbad
          by_cases h0 : k = 0
          · subst h0
            simp only [Nat.add_zero] at hc
            have HP := Lib.hid (show pipB r 0 = false by unfold pipB; rw [HD.out, HBAD.out]; rfl)
            go_wp2_with fail
            go_quiet ((go_at_call 43; exact Calls.quiet_of_same (OUT.out _)))
            go_wp2_with fail
            go_roundw
            case rel => exact ⟨1, by omega, rfl, by rw [pip_succ r 0, HN.out, HP.out]; rfl, q + nq, by rw [HQ.out, World.drewN_drewN]⟩
            case measure => simp [intOf]; omega
          · have hk0 : 0 < k := by omega
            obtain ⟨y, hy⟩ : ∃ y, r[k - 1]? = some y := ⟨_, List.getElem?_eq_getElem (by rw [HL.out]; omega)⟩
            obtain ⟨b', o', hA', _, hc'⟩ := (HR.out.no HKP.out).2 (k - 1) y hy
            injection hA' with hA'
            injection hA' with hA1 hA2
            subst hA1 hA2
            have HDY := Lib.hid (intD_at hy)
            have hk1 : (k : Int) - 1 = ((k - 1 : Nat) : Int) := by omega
            have hkw : IntKind.i64.wrap ((k : Int) - 1) = ((k - 1 : Nat) : Int) := by rw [hk1, IntKind.wrap_i64]; omega
            have d0 : decide ((k : Int) > 0) = true := by simp; omega
            have d1 : decide ((0 : Int) < (k : Int)) = true := by simp; omega
            have d2 : decide (0 < k) = true := by simp; omega
            clear hy h0
            by_cases hxy : y < x
            · have HP := Lib.hid (show pipB r k = true by unfold pipB; rw [HD.out, HDY.out, HBAD.out]; simp [hk0, hxy])
              have HE := Lib.hid (HST.out HP.out)
              have d3 : decide (y < x) = true := by simp [hxy]
              go_wp2_with fail
              go_quiet ((go_at_call 43; exact Calls.quiet_of_same (OUT.out _)))
              go_wp2_with fail
              go_ret
              exact ⟨by rw [HE.out]; rfl, q + nq, by rw [HQ.out, World.drewN_drewN]⟩
            · have HP := Lib.hid (show pipB r k = false by unfold pipB; rw [HD.out, HDY.out, HBAD.out]; simp [hxy] <;> omega)
              have d3 : decide (y < x) = false := by simp; omega
              go_wp2_with fail
              go_quiet ((go_at_call 43; exact Calls.quiet_of_same (OUT.out _)))
              go_wp2_with fail
              go_roundw
              case rel => exact ⟨k + 1, by omega, by go_num, by rw [pip_succ, HN.out, HP.out]; rfl, q + nq, by rw [HQ.out, World.drewN_drewN]⟩
              case measure => simp [intOf]; omega
        · rw [hbad] at OUT
          have HE := Lib.hid (HST.out (by unfold pipB; rw [HD.out, hbad]; rfl))
          clear hbad
          go_wp2_with fail
          go_quiet ((go_at_call 43; exact Calls.quiet_of_same (OUT.out _)))
          go_wp2_with fail
          go_ret
          exact ⟨by rw [HE.out]; rfl, q + nq, by rw [HQ.out, World.drewN_drewN]⟩
      · obtain rfl : k = m := by omega
        have HE := Lib.hid (show pipE r = 0 by rw [pipE_eq, if_neg (by rw [HL.out]; omega), HL.out, HN.out]; rfl)
        go_wp2_with fail
        go_ret
        exact ⟨by rw [HE.out]; rfl, q, HQ.out⟩
end Go.Proofs.Ytakgcnjpmpcekaa
