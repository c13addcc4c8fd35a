/- Chapter 33: does a choice's division come among those chosen: slices.ContainsFunc with its closure: walks. -/
import Derived.Test.YtfflhlmnfhfcgaaXRtC
namespace Go.Proofs.Ytfflhlmnfhfcgaa
open Go.RowKit Go.Kq

def Ch.val (x : Ch) : Value := .agg #[.int .i64 x.c.to, x.sl, .int .i64 x.c.cost]
theorem same_any2 (bx : Nat) (xt : Int) (y : Ch) (w : World) (hb : w.cell? ⟨bx, 0, none⟩ = some (.int .i64 xt)) :
    Calls Try.prog 44 #[y.val, .pointer (some ⟨bx, 0, none⟩)] w fun e w' => e = .returned (.bool (decide (xt = y.c.to))) ∧ Kp No w w' := by
  obtain ⟨⟨t, s, c⟩, a, cap⟩ := y
  have hbl : bx < w.heap.size := World.block_lt_of_cell? w _ hb
  simp only [Ch.val, Ch.sl]
  go_enter Try.func44, Try.ntmps44
  go_wp2
  go_ret
  exact ⟨ret_bool (by first | rfl | (rw [Bool.eq_iff_iff]; simp)), Kp.alloc _ _ _⟩
set_option maxHeartbeats 400000 in
theorem cindex_any (A : Option Addr) (n cap bx : Nat) (xt : Int) (chs : List Ch) (w : World) (h : Rd Ch.cells 3 w A n chs) (hb : w.cell? ⟨bx, 0, none⟩ = some (.int .i64 xt)) (hn : n ≤ 1000) :
    Calls Try.prog 64 #[.slice A n cap, .func (.func 44) #[] #[.pointer (some ⟨bx, 0, none⟩)]] w fun e w' => ∃ i : Int, e = .returned (.int .i64 i) ∧ (decide (0 ≤ i) = chs.any fun y => decide (xt = y.c.to)) ∧ Kp No w w' := by
  go_enter Try.func64, Try.ntmps64
  go_wp2_with fail
  go_loopw [8] (fun i wr => ∃ k : Nat, k ≤ n ∧ i = .int .i64 k ∧ ((chs.take k).any fun y => decide (xt = y.c.to)) = false ∧ Kp No w wr) (fun i _ => n - (intOf i).toNat)
  case atStart => exact ⟨0, by omega, rfl, by simp, Kp.refl _ _⟩
  case round =>
    obtain ⟨k, hk, rfl, hno, hkp⟩ := hrel
    by_cases hlt : k < n
    · obtain ⟨v, hv⟩ : ∃ v, chs[k]? = some v := ⟨_, List.getElem?_eq_getElem (by rw [h.1]; exact hlt)⟩
      obtain ⟨b, o, rfl, hb2, hc⟩ := (h.no hkp).2 k v hv
      have c0 := hc 0 (.int .i64 v.c.to) rfl
      have c1 := hc 1 (.slice v.a v.c.stops.length v.cap) rfl
      have c2 := hc 2 (.int .i64 v.c.cost) rfl
      rw [Nat.add_zero] at c0
      have hbk := hkp.cell hb id
      have Ht := Lib.hid (any_take_succ (fun y : Ch => decide (xt = y.c.to)) chs k v hv)
      have Hno := Lib.hid hno
      have Hv := Lib.hid hv
      have HBK := Lib.hid hbk
      clear hno hv hc hb hbk
      cases hbad : decide (xt = v.c.to)
      · have HB := Lib.hid hbad
        clear hbad
        go_wp2_with (go_at_call 44; refine (same_any2 bx xt v _ HBK.out).mono ?_; rintro e w' ⟨rfl, hkp'⟩; rw [HB.out])
        go_roundw
        case rel => exact ⟨k + 1, by omega, by go_num, by rw [Ht.out, Hno.out, HB.out]; rfl, hkp.tr hkp'⟩
        case measure => simp [intOf]; omega
      · have HB := Lib.hid hbad
        clear hbad
        go_wp2_with (go_at_call 44; refine (same_any2 bx xt v _ HBK.out).mono ?_; rintro e w' ⟨rfl, hkp'⟩; rw [HB.out])
        go_ret
        refine ⟨k, rfl, ?_, hkp.tr hkp'⟩
        have : (chs.any fun y => decide (xt = y.c.to)) = true := List.any_eq_true.2 ⟨v, List.mem_of_getElem? Hv.out, HB.out⟩
        rw [this]
        simp
    · go_wp2
      go_ret
      refine ⟨-1, rfl, ?_, hkp⟩
      rw [List.take_of_length_le (by rw [h.1]; omega)] at hno
      rw [hno]
      rfl
theorem ccont_any (A : Option Addr) (n cap bx : Nat) (xt : Int) (chs : List Ch) (w : World) (h : Rd Ch.cells 3 w A n chs) (hb : w.cell? ⟨bx, 0, none⟩ = some (.int .i64 xt)) (hn : n ≤ 1000) :
    Calls Try.prog 43 #[.slice A n cap, .func (.func 44) #[] #[.pointer (some ⟨bx, 0, none⟩)]] w fun e w' => e = .returned (.bool (chs.any fun y => decide (xt = y.c.to))) ∧ Kp No w w' := by
  go_enter Try.func43, Try.ntmps43
  go_wp2_with (go_at_call 64; refine (cindex_any A n cap bx xt chs _ h hb hn).mono ?_; rintro e w' ⟨i, rfl, hi, hkp⟩)
  go_ret
  exact ⟨by first | rfl | exact ret_bool hi, hkp⟩
end Go.Proofs.Ytfflhlmnfhfcgaa
