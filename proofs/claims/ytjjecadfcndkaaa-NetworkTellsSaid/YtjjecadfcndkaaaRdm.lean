/- Chapter 14: the walk of the reference's demands. -/
import Derived.Test.YtjjecadfcndkaaaRg2
namespace Go.Proofs.Ytjjecadfcndkaaa
open Go.RowKit Go.Kq Go.Flow

set_option maxHeartbeats 2000000 in
theorem rdem_bad (Z : Nz) (c : Int) (hc : ChkIs Z c) (hz : c ≠ 0) (A B D : Option Addr) (ca cb dn dc : Nat) (w : World) (hR : RdNz w A B Z) :
    Calls Try.prog 40 #[netZ Z A B ca cb, .slice D dn dc] w fun e w' => e = .returned (.int .i64 c) ∧ Kp No w w' := by
  have H1 := Lib.hid (rcheck_bad Z c hc A B ca cb)
  have d1 : (c != 0) = true := by rw [bne_iff_ne]; exact hz
  have d2 : (c == 0) = false := by rw [beq_eq_false_iff_ne]; exact hz
  have HR := Lib.hid hR
  clear hc hz hR
  unfold netZ at H1
  unfold netZ
  have hcase : (0 : Int) < dn ∨ (dn : Int) ≤ 0 := by omega
  rcases hcase with h | h
  all_goals
    go_enter Try.func40, Try.ntmps40
    go_wp2_with fail
    have K0 := Lib.hid (Kp.alloc No w (.cells #[.int .i64 Z.n, .slice A Z.tr.length ca, .slice B Z.ch.length cb] 25))
    refine (H1.out _ (HR.out.no K0.out)).mono ?_
    rintro e w1 ⟨rfl, hk1⟩
    go_wp2_with fail
    go_loopw [5, 6] (fun ev iv wr => ev = .int .i64 c ∧ iv = .int .i64 0 ∧ wr = w1) (fun _ _ _ => 0)
    case atStart => exact ⟨rfl, rfl, rfl⟩
    case round =>
      obtain ⟨rfl, rfl, rfl⟩ := hrel
      go_wp2_with fail
      go_ret
      exact ⟨rfl, K0.out.tr hk1⟩
/-- The error of demands. -/
def DmC (N : Net) (ds : List Int) (c : Int) : Prop := ((ds.length = N.ch.length ∧ ∀ d ∈ ds, dOk d) ∧ c = 0) ∨ (¬ (ds.length = N.ch.length ∧ ∀ d ∈ ds, dOk d) ∧ c = 2)
set_option maxHeartbeats 4000000 in
theorem rdem_net (N : Net) (hN : N.Ok) (A B D : Option Addr) (ca cb dc : Nat) (ds : List Int) (w : World) (hR : RdNet w A B N) (hD : RdI .i64 w D ds.length ds) (hd20 : ds.length ≤ 1000000) :
    Calls Try.prog 40 #[netV N A B ca cb, .slice D ds.length dc] w fun e w' => ∃ c, e = .returned (.int .i64 c) ∧ DmC N ds c ∧ Kp No w w' := by
  have H1 := Lib.hid (rcheck_ok N hN A B ca cb)
  have HR := Lib.hid hR
  have HD := Lib.hid hD
  have hc1 := hN.c1
  clear hN hR hD
  unfold netV at H1
  unfold netV
  by_cases hl : ds.length = N.ch.length
  · have hb1 : ((ds.length : Int) == (N.ch.length : Int)) = true := by rw [beq_iff_eq]; omega
    have hb2 : ((ds.length : Int) != (N.ch.length : Int)) = false := by rw [bne_eq_false_iff_eq]; omega
    have HL := Lib.hid hl
    clear hl
    go_enter Try.func40, Try.ntmps40
    go_wp2_with fail
    have K0 := Lib.hid (Kp.alloc No w (.cells #[.int .i64 N.n, .slice A N.tr.length ca, .slice B N.ch.length cb] 25))
    refine (H1.out _ (HR.out.no K0.out)).mono ?_
    rintro e w1 ⟨rfl, hk1⟩
    have K1 := Lib.hid (K0.out.tr hk1)
    obtain ⟨x0, x1, x2⟩ := box3 (hk1.heap (heap_alloc_new w (.cells #[.int .i64 N.n, .slice A N.tr.length ca, .slice B N.ch.length cb] 25)) (fun h => h))
    clear hk1
    go_wp2_with fail
    go_loopw [5, 6] (fun ev iv wr => ∃ k : Nat, k ≤ ds.length ∧ iv = .int .i64 k ∧ ((ev = .int .i64 0 ∧ ∀ d ∈ ds.take k, dOk d) ∨ (ev = .int .i64 2 ∧ ∃ d ∈ ds, ¬ dOk d)) ∧ Kp No w1 wr) (fun _ iv _ => ds.length - (intOf iv).toNat)
    case atStart => exact ⟨0, by omega, rfl, .inl ⟨rfl, by simp⟩, Kp.refl _ _⟩
    case round =>
      obtain ⟨k, hk, rfl, ⟨rfl, hok⟩ | ⟨rfl, hbad⟩, hkp⟩ := hrel
      · have HOK := Lib.hid hok
        have HKP := Lib.hid hkp
        clear hok hkp
        by_cases hlt : (k : Int) < ds.length
        · obtain ⟨d, hdk⟩ : ∃ d, ds[k]? = some d := ⟨_, List.getElem?_eq_getElem (by omega)⟩
          obtain ⟨bD, oD, rfl, hbD, z0⟩ := (HD.out.no (K1.out.tr HKP.out)).2 k d hdk
          by_cases hg : dOk d
          · have HG := Lib.hid (show ∀ x ∈ ds.take (k + 1), dOk x from fun x hx => by
              rw [List.take_add_one, hdk] at hx
              rcases List.mem_append.1 hx with hx | hx
              · exact HOK.out x hx
              · simp at hx
                rw [hx]
                exact hg)
            unfold dOk at hg
            obtain ⟨g1, g2⟩ := hg
            clear hdk
            go_wp2_with fail
            go_roundw
            case rel => exact ⟨k + 1, by omega, by go_num, .inl ⟨rfl, HG.out⟩, HKP.out⟩
            case measure => simp [intOf]; omega
          · have HG := Lib.hid (show ∃ d ∈ ds, ¬ dOk d from ⟨d, List.mem_of_getElem? hdk, hg⟩)
            have hcase : d < 0 ∨ (0 ≤ d ∧ 1000000000000 < d) := by unfold dOk at hg; omega
            clear hdk hg
            rcases hcase with h | ⟨h, h2⟩
            all_goals
              go_wp2_with fail
              go_roundw
              case rel => exact ⟨k + 1, by omega, by go_num, .inr ⟨rfl, HG.out⟩, HKP.out⟩
              case measure => simp [intOf]; omega
        · have HG := Lib.hid (show ∀ x ∈ ds, dOk x by have := HOK.out; rwa [List.take_of_length_le (by omega)] at this)
          go_wp2_with fail
          go_ret
          exact ⟨0, rfl, .inl ⟨⟨HL.out, HG.out⟩, rfl⟩, K1.out.tr HKP.out⟩
      · have HB := Lib.hid (show ¬ (ds.length = N.ch.length ∧ ∀ d ∈ ds, dOk d) from fun h => by
          obtain ⟨d, h1, h2⟩ := hbad
          exact h2 (h.2 d h1))
        clear hbad
        have hcase : (k : Int) < ds.length ∨ (ds.length : Int) ≤ k := by omega
        rcases hcase with h | h
        all_goals
          go_wp2_with fail
          go_ret
          exact ⟨2, rfl, .inr ⟨HB.out, rfl⟩, K1.out.tr hkp⟩
  · have hb1 : ((ds.length : Int) == (N.ch.length : Int)) = false := by rw [beq_eq_false_iff_ne]; omega
    have hb2 : ((ds.length : Int) != (N.ch.length : Int)) = true := by rw [bne_iff_ne]; omega
    have HB := Lib.hid (show ¬ (ds.length = N.ch.length ∧ ∀ d ∈ ds, dOk d) from fun h => hl h.1)
    clear hl
    have hcase : (0 : Int) < ds.length ∨ (ds.length : Int) ≤ 0 := by omega
    rcases hcase with h | h
    all_goals
      go_enter Try.func40, Try.ntmps40
      go_wp2_with fail
      have K0 := Lib.hid (Kp.alloc No w (.cells #[.int .i64 N.n, .slice A N.tr.length ca, .slice B N.ch.length cb] 25))
      refine (H1.out _ (HR.out.no K0.out)).mono ?_
      rintro e w1 ⟨rfl, hk1⟩
      have K1 := Lib.hid (K0.out.tr hk1)
      obtain ⟨x0, x1, x2⟩ := box3 (hk1.heap (heap_alloc_new w (.cells #[.int .i64 N.n, .slice A N.tr.length ca, .slice B N.ch.length cb] 25)) (fun h => h))
      clear hk1
      go_wp2_with fail
      go_loopw [5, 6] (fun ev iv wr => ev = .int .i64 2 ∧ iv = .int .i64 0 ∧ wr = w1) (fun _ _ _ => 0)
      case atStart => exact ⟨rfl, rfl, rfl⟩
      case round =>
        obtain ⟨rfl, rfl, rfl⟩ := hrel
        go_wp2_with fail
        go_ret
        exact ⟨2, rfl, .inr ⟨HB.out, rfl⟩, K1.out⟩
end Go.Proofs.Ytjjecadfcndkaaa
