/- Chapter 09: slices.IndexFunc and ContainsFunc at the chapter's elements. Printed by gen_cf.py. · Chapter 09: wrong, a job's check, and whether a cut is larger than the plate. · How many bits a number has. No program in sight. -/
import Derived.Lib.BitFns
import Derived.Test.YtamjhpdgclbfgaaGreatXLibQuoFM
namespace Go.Proofs.YtamjhpdgclbfgaaGreat
open Go.RowKit Go.Kq

set_option maxHeartbeats 1000000 in
theorem index_wrong (A : Option Addr) (n cap : Nat) (vs : List Ct) (p : Ct → Bool) (w : World) (h : Rd Ct.cells 2 w A n vs) (hn : n ≤ 100000000) (hf : ∀ v w', Kp No w w' → Calls Tryz.prog 33 #[Ct.val v] w' fun e w'' => e = .returned (.bool (p v)) ∧ Kp No w' w'') :
    Calls Tryz.prog 63 #[.slice A n cap, .func (.func 33) #[] #[]] w fun e w' => e = .returned (.int .i64 (ixI p vs)) ∧ Kp No w w' := by
  have HF := Lib.hid hf
  clear hf
  go_enter Tryz.func63, Tryz.ntmps63
  go_wp2_with fail
  go_loopw [8] (fun i wr => ∃ k : Nat, k ≤ n ∧ i = .int .i64 k ∧ (vs.take k).any p = false ∧ Kp No w wr) (fun i _ => n - (intOf i).toNat)
  case atStart => exact ⟨0, by omega, rfl, by simp, Kp.refl _ _⟩
  case round =>
    obtain ⟨k, hk, rfl, hno, hkp⟩ := hrel
    by_cases hlt : k < n
    · obtain ⟨v, hv⟩ : ∃ v, vs[k]? = some v := ⟨_, List.getElem?_eq_getElem (by rw [h.1]; exact hlt)⟩
      obtain ⟨b, o, rfl, hb, hc⟩ := h.2 k v hv
      have c0 := hkp.cell (hc 0 _ rfl) (fun h => h)
      have c1 := hkp.cell (hc 1 _ rfl) (fun h => h)
      simp only [Nat.add_zero] at c0
      have Ht := Lib.hid (any_take_succ p vs k v hv)
      have Hno := Lib.hid hno
      have Hv := Lib.hid hv
      have HC := Lib.hid (HF.out v _ hkp)
      have HK := Lib.hid hkp
      clear hno hv hc hkp
      cases hbad : p v
      · rw [hbad] at HC
        have HB := Lib.hid hbad
        clear hbad
        simp only [Ct.val] at HC
        go_wp2_with (go_at_call 33; refine HC.out.mono ?_; rintro e w' ⟨rfl, hkp'⟩)
        go_roundw
        case rel => exact ⟨k + 1, by omega, by go_num, by rw [Ht.out, Hno.out, HB.out]; rfl, HK.out.tr hkp'⟩
        case measure => simp [intOf]; omega
      · rw [hbad] at HC
        have HB := Lib.hid hbad
        clear hbad
        simp only [Ct.val] at HC
        go_wp2_with (go_at_call 33; refine HC.out.mono ?_; rintro e w' ⟨rfl, hkp'⟩)
        go_ret
        exact ⟨by rw [ixI_at Hno.out Hv.out HB.out]; rfl, HK.out.tr hkp'⟩
    · have HK := Lib.hid hkp
      have Hno := Lib.hid hno
      clear hkp hno
      go_wp2
      go_ret
      refine ⟨?_, HK.out⟩
      have hno := Hno.out
      rw [List.take_of_length_le (by rw [h.1]; omega)] at hno
      rw [ixI_none hno]
      rfl
set_option maxHeartbeats 1000000 in
theorem contains_wrong (A : Option Addr) (n cap : Nat) (vs : List Ct) (p : Ct → Bool) (w : World) (h : Rd Ct.cells 2 w A n vs) (hn : n ≤ 100000000) (hf : ∀ v w', Kp No w w' → Calls Tryz.prog 33 #[Ct.val v] w' fun e w'' => e = .returned (.bool (p v)) ∧ Kp No w' w'') :
    Calls Tryz.prog 32 #[.slice A n cap, .func (.func 33) #[] #[]] w fun e w' => e = .returned (.bool (vs.any p)) ∧ Kp No w w' := by
  have HI := Lib.hid (index_wrong A n cap vs p w h hn hf)
  have HA := Lib.hid (ixI_any p vs)
  clear hf
  generalize ixI p vs = i at HI HA
  go_enter Tryz.func32, Tryz.ntmps32
  go_wp2_with (go_at_call 63; refine HI.out.mono ?_; rintro e w' ⟨rfl, hkp⟩)
  go_ret
  exact ⟨by first | rfl | exact ret_bool HA.out, hkp⟩
set_option maxHeartbeats 1000000 in
theorem index_large {cv : Value} (A : Option Addr) (n cap : Nat) (vs : List Ct) (p : Ct → Bool) (w : World) (h : Rd Ct.cells 2 w A n vs) (hn : n ≤ 100000000) (hf : ∀ v w', Kp No w w' → Calls Tryz.prog 85 #[Ct.val v, cv] w' fun e w'' => e = .returned (.bool (p v)) ∧ Kp No w' w'') :
    Calls Tryz.prog 63 #[.slice A n cap, .func (.func 85) #[] #[cv]] w fun e w' => e = .returned (.int .i64 (ixI p vs)) ∧ Kp No w w' := by
  have HF := Lib.hid hf
  clear hf
  go_enter Tryz.func63, Tryz.ntmps63
  go_wp2_with fail
  go_loopw [8] (fun i wr => ∃ k : Nat, k ≤ n ∧ i = .int .i64 k ∧ (vs.take k).any p = false ∧ Kp No w wr) (fun i _ => n - (intOf i).toNat)
  case atStart => exact ⟨0, by omega, rfl, by simp, Kp.refl _ _⟩
  case round =>
    obtain ⟨k, hk, rfl, hno, hkp⟩ := hrel
    by_cases hlt : k < n
    · obtain ⟨v, hv⟩ : ∃ v, vs[k]? = some v := ⟨_, List.getElem?_eq_getElem (by rw [h.1]; exact hlt)⟩
      obtain ⟨b, o, rfl, hb, hc⟩ := h.2 k v hv
      have c0 := hkp.cell (hc 0 _ rfl) (fun h => h)
      have c1 := hkp.cell (hc 1 _ rfl) (fun h => h)
      simp only [Nat.add_zero] at c0
      have Ht := Lib.hid (any_take_succ p vs k v hv)
      have Hno := Lib.hid hno
      have Hv := Lib.hid hv
      have HC := Lib.hid (HF.out v _ hkp)
      have HK := Lib.hid hkp
      clear hno hv hc hkp
      cases hbad : p v
      · rw [hbad] at HC
        have HB := Lib.hid hbad
        clear hbad
        simp only [Ct.val] at HC
        go_wp2_with (go_at_call 85; refine HC.out.mono ?_; rintro e w' ⟨rfl, hkp'⟩)
        go_roundw
        case rel => exact ⟨k + 1, by omega, by go_num, by rw [Ht.out, Hno.out, HB.out]; rfl, HK.out.tr hkp'⟩
        case measure => simp [intOf]; omega
      · rw [hbad] at HC
        have HB := Lib.hid hbad
        clear hbad
        simp only [Ct.val] at HC
        go_wp2_with (go_at_call 85; refine HC.out.mono ?_; rintro e w' ⟨rfl, hkp'⟩)
        go_ret
        exact ⟨by rw [ixI_at Hno.out Hv.out HB.out]; rfl, HK.out.tr hkp'⟩
    · have HK := Lib.hid hkp
      have Hno := Lib.hid hno
      clear hkp hno
      go_wp2
      go_ret
      refine ⟨?_, HK.out⟩
      have hno := Hno.out
      rw [List.take_of_length_le (by rw [h.1]; omega)] at hno
      rw [ixI_none hno]
      rfl
set_option maxHeartbeats 1000000 in
theorem contains_large {cv : Value} (A : Option Addr) (n cap : Nat) (vs : List Ct) (p : Ct → Bool) (w : World) (h : Rd Ct.cells 2 w A n vs) (hn : n ≤ 100000000) (hf : ∀ v w', Kp No w w' → Calls Tryz.prog 85 #[Ct.val v, cv] w' fun e w'' => e = .returned (.bool (p v)) ∧ Kp No w' w'') :
    Calls Tryz.prog 32 #[.slice A n cap, .func (.func 85) #[] #[cv]] w fun e w' => e = .returned (.bool (vs.any p)) ∧ Kp No w w' := by
  have HI := Lib.hid (index_large A n cap vs p w h hn hf)
  have HA := Lib.hid (ixI_any p vs)
  clear hf
  generalize ixI p vs = i at HI HA
  go_enter Tryz.func32, Tryz.ntmps32
  go_wp2_with (go_at_call 63; refine HI.out.mono ?_; rintro e w' ⟨rfl, hkp⟩)
  go_ret
  exact ⟨by first | rfl | exact ret_bool HA.out, hkp⟩
set_option maxHeartbeats 1000000 in
theorem index_room {cv cu : Value} (A : Option Addr) (n cap : Nat) (vs : List Spo) (p : Spo → Bool) (w : World) (h : Rd Spo.cells 4 w A n vs) (hn : n ≤ 100000000) (hf : ∀ v w', Kp No w w' → Calls Tryz.prog 59 #[Spo.val v, cv, cu] w' fun e w'' => e = .returned (.bool (p v)) ∧ Kp No w' w'') :
    Calls Tryz.prog 60 #[.slice A n cap, .func (.func 59) #[] #[cv, cu]] w fun e w' => e = .returned (.int .i64 (ixI p vs)) ∧ Kp No w w' := by
  have HF := Lib.hid hf
  clear hf
  go_enter Tryz.func60, Tryz.ntmps60
  go_wp2_with fail
  go_loopw [8] (fun i wr => ∃ k : Nat, k ≤ n ∧ i = .int .i64 k ∧ (vs.take k).any p = false ∧ Kp No w wr) (fun i _ => n - (intOf i).toNat)
  case atStart => exact ⟨0, by omega, rfl, by simp, Kp.refl _ _⟩
  case round =>
    obtain ⟨k, hk, rfl, hno, hkp⟩ := hrel
    by_cases hlt : k < n
    · obtain ⟨v, hv⟩ : ∃ v, vs[k]? = some v := ⟨_, List.getElem?_eq_getElem (by rw [h.1]; exact hlt)⟩
      obtain ⟨b, o, rfl, hb, hc⟩ := h.2 k v hv
      have c0 := hkp.cell (hc 0 _ rfl) (fun h => h)
      have c1 := hkp.cell (hc 1 _ rfl) (fun h => h)
      have c2 := hkp.cell (hc 2 _ rfl) (fun h => h)
      have c3 := hkp.cell (hc 3 _ rfl) (fun h => h)
      simp only [Nat.add_zero] at c0
      have Ht := Lib.hid (any_take_succ p vs k v hv)
      have Hno := Lib.hid hno
      have Hv := Lib.hid hv
      have HC := Lib.hid (HF.out v _ hkp)
      have HK := Lib.hid hkp
      clear hno hv hc hkp
      cases hbad : p v
      · rw [hbad] at HC
        have HB := Lib.hid hbad
        clear hbad
        simp only [Spo.val] at HC
        go_wp2_with (go_at_call 59; refine HC.out.mono ?_; rintro e w' ⟨rfl, hkp'⟩)
        go_roundw
        case rel => exact ⟨k + 1, by omega, by go_num, by rw [Ht.out, Hno.out, HB.out]; rfl, HK.out.tr hkp'⟩
        case measure => simp [intOf]; omega
      · rw [hbad] at HC
        have HB := Lib.hid hbad
        clear hbad
        simp only [Spo.val] at HC
        go_wp2_with (go_at_call 59; refine HC.out.mono ?_; rintro e w' ⟨rfl, hkp'⟩)
        go_ret
        exact ⟨by rw [ixI_at Hno.out Hv.out HB.out]; rfl, HK.out.tr hkp'⟩
    · have HK := Lib.hid hkp
      have Hno := Lib.hid hno
      clear hkp hno
      go_wp2
      go_ret
      refine ⟨?_, HK.out⟩
      have hno := Hno.out
      rw [List.take_of_length_le (by rw [h.1]; omega)] at hno
      rw [ixI_none hno]
      rfl
set_option maxHeartbeats 1000000 in
theorem index_top {cv cu : Value} (A : Option Addr) (n cap : Nat) (vs : List Int) (p : Int → Bool) (w : World) (h : RdI .i64 w A n vs) (hn : n ≤ 100000000) (hf : ∀ v w', Kp No w w' → Calls Tryz.prog 62 #[i64V v, cv, cu] w' fun e w'' => e = .returned (.bool (p v)) ∧ Kp No w' w'') :
    Calls Tryz.prog 61 #[.slice A n cap, .func (.func 62) #[] #[cv, cu]] w fun e w' => e = .returned (.int .i64 (ixI p vs)) ∧ Kp No w w' := by
  have HF := Lib.hid hf
  clear hf
  go_enter Tryz.func61, Tryz.ntmps61
  go_wp2_with fail
  go_loopw [8] (fun i wr => ∃ k : Nat, k ≤ n ∧ i = .int .i64 k ∧ (vs.take k).any p = false ∧ Kp No w wr) (fun i _ => n - (intOf i).toNat)
  case atStart => exact ⟨0, by omega, rfl, by simp, Kp.refl _ _⟩
  case round =>
    obtain ⟨k, hk, rfl, hno, hkp⟩ := hrel
    by_cases hlt : k < n
    · obtain ⟨v, hv⟩ : ∃ v, vs[k]? = some v := ⟨_, List.getElem?_eq_getElem (by rw [h.1]; exact hlt)⟩
      obtain ⟨b, o, rfl, hb, hc⟩ := h.2 k v hv
      have c0 := hkp.cell hc (fun h => h)
      have Ht := Lib.hid (any_take_succ p vs k v hv)
      have Hno := Lib.hid hno
      have Hv := Lib.hid hv
      have HC := Lib.hid (HF.out v _ hkp)
      have HK := Lib.hid hkp
      clear hno hv hc hkp
      cases hbad : p v
      · rw [hbad] at HC
        have HB := Lib.hid hbad
        clear hbad
        simp only [i64V] at HC
        go_wp2_with (go_at_call 62; refine HC.out.mono ?_; rintro e w' ⟨rfl, hkp'⟩)
        go_roundw
        case rel => exact ⟨k + 1, by omega, by go_num, by rw [Ht.out, Hno.out, HB.out]; rfl, HK.out.tr hkp'⟩
        case measure => simp [intOf]; omega
      · rw [hbad] at HC
        have HB := Lib.hid hbad
        clear hbad
        simp only [i64V] at HC
        go_wp2_with (go_at_call 62; refine HC.out.mono ?_; rintro e w' ⟨rfl, hkp'⟩)
        go_ret
        exact ⟨by rw [ixI_at Hno.out Hv.out HB.out]; rfl, HK.out.tr hkp'⟩
    · have HK := Lib.hid hkp
      have Hno := Lib.hid hno
      clear hkp hno
      go_wp2
      go_ret
      refine ⟨?_, HK.out⟩
      have hno := Hno.out
      rw [List.take_of_length_le (by rw [h.1]; omega)] at hno
      rw [ixI_none hno]
      rfl
end Go.Proofs.YtamjhpdgclbfgaaGreat

namespace Go.Proofs.YtamjhpdgclbfgaaGreat
open Go.RowKit Go.Kq

set_option maxHeartbeats 2000000 in
theorem wrong_any (c : Ct) (w : World) : Calls Tryz.prog 33 #[c.val] w fun e w' => e = .returned (.bool (badC c)) ∧ Kp No w w' := by
  have H1 := Lib.hid (fun w0 => outside_any c.w 1 20000000 w0)
  have H2 := Lib.hid (fun w0 => outside_any c.h 1 20000000 w0)
  unfold badC
  generalize outB c.w 1 20000000 = q1 at *
  generalize outB c.h 1 20000000 = q2 at *
  unfold Ct.val
  have hk0 : Kp No w (w.alloc (.cells #[.int .i64 c.w, .int .i64 c.h] 25)) := Kp.alloc _ _ _
  go_enter Tryz.func33, Tryz.ntmps33
  cases q1
  · go_wp2_with fail
    with_reducible refine (H1.out _).mono ?_
    rintro e w1 ⟨rfl, hw⟩
    subst hw
    go_wp2_with fail
    with_reducible refine (H2.out _).mono ?_
    rintro e w1 ⟨rfl, hw⟩
    subst hw
    go_wp2_with fail
    go_ret
    exact ⟨rfl, hk0⟩
  · go_wp2_with fail
    with_reducible refine (H1.out _).mono ?_
    rintro e w1 ⟨rfl, hw⟩
    subst hw
    go_wp2_with fail
    go_ret
    exact ⟨rfl, hk0⟩
def jobV (P : Pt) (A : Option Addr) (n ca : Nat) : Value := .agg #[.int .i64 P.w, .int .i64 P.h, .int .i64 P.k, .slice A n ca]
def jbad (P : Pt) (l : List Ct) : Bool := badC ⟨P.w, P.h⟩ || outB P.k 0 50000 || l.any badC
def jchk (P : Pt) (l : List Ct) (m : Int) : Int := if m < (l.length : Int) then 3 else if jbad P l then 2 else 0
set_option maxHeartbeats 4000000 in
theorem jcheck_any (P : Pt) (A : Option Addr) (n ca : Nat) (l : List Ct) (m : Int) (w : World) (hx : RdC w A n l) (hn : n ≤ 100000000) :
    Calls Tryz.prog 54 #[jobV P A n ca, .int .i64 m] w fun e w' => e = .returned (.int .i64 (jchk P l m)) ∧ Kp No w w' := by
  have HX := Lib.hid hx
  have HL := Lib.hid hx.1
  have HW := Lib.hid (fun w0 => wrong_any ⟨P.w, P.h⟩ w0)
  have HO := Lib.hid (fun w0 => outside_any P.k 0 50000 w0)
  have HC := Lib.hid (fun w0 (k : Kp No w w0) => contains_wrong A n ca l badC w0 (hx.no k) hn (fun v w' _ => wrong_any v w'))
  clear hx
  unfold jobV jchk jbad
  rw [HL.out]
  simp only [Ct.val] at HW
  generalize badC ⟨P.w, P.h⟩ = q1 at *
  generalize outB P.k 0 50000 = q2 at *
  generalize l.any badC = q3 at *
  clear HX HL
  have hk0 : Kp No w (w.alloc (.cells #[.int .i64 P.w, .int .i64 P.h, .int .i64 P.k, .slice A n ca] 95)) := Kp.alloc _ _ _
  have hbx : (w.alloc (.cells #[.int .i64 P.w, .int .i64 P.h, .int .i64 P.k, .slice A n ca] 95)).heap[w.heap.size]? = some (.cells #[.int .i64 P.w, .int .i64 P.h, .int .i64 P.k, .slice A n ca] 95 (0, 0)) := heap_alloc_new _ _
  go_enter Tryz.func54, Tryz.ntmps54
  by_cases hm : m < (n : Int)
  · rw [if_pos hm]
    go_wp2_with fail
    go_ret
    exact ⟨rfl, hk0⟩
  rw [if_neg hm]
  go_wp2_with fail
  with_reducible refine (HW.out _).mono ?_
  rintro e w1 ⟨rfl, k1⟩
  have hbx1 := k1.heap hbx id
  obtain ⟨gb, hgb⟩ : ∃ gb, gb = w.heap.size := ⟨_, rfl⟩
  rw [← hgb] at hbx1 ⊢
  have b2 : w1.cell? ⟨gb, 2, none⟩ = some (.int .i64 P.k) := by rw [cell_of_row _ _ _ _ _ _ hbx1]; rfl
  have b3 : w1.cell? ⟨gb, 3, none⟩ = some (.slice A n ca) := by rw [cell_of_row _ _ _ _ _ _ hbx1]; rfl
  have HK := Lib.hid (hk0.tr k1)
  clear hbx hbx1 hgb k1 hk0
  cases q1
  rotate_left
  · go_wp2_with fail
    go_ret
    exact ⟨rfl, HK.out⟩
  go_wp2_with fail
  with_reducible refine (HO.out _).mono ?_
  rintro e w2 ⟨rfl, hw⟩
  subst hw
  cases q2
  rotate_left
  · go_wp2_with fail
    go_ret
    exact ⟨rfl, HK.out⟩
  go_wp2_with fail
  with_reducible refine (HC.out _ HK.out).mono ?_
  rintro e w2 ⟨rfl, k2⟩
  cases q3
  · go_wp2_with fail
    go_ret
    exact ⟨rfl, HK.out.tr k2⟩
  · go_wp2_with fail
    go_ret
    exact ⟨rfl, HK.out.tr k2⟩
end Go.Proofs.YtamjhpdgclbfgaaGreat

namespace Go.Kq
theorem bitLen_bounds : ∀ x : Nat, x ≠ 0 → x < 2 ^ 64 → 1 ≤ Lib.bitLen x ∧ 2 ^ (Lib.bitLen x - 1) ≤ x ∧ x < 2 ^ Lib.bitLen x := by
  intro x
  induction x using Nat.strongRecOn with
  | _ x ih =>
    intro h0 h
    rw [Lib.bitLen_half x h0 h]
    by_cases h1 : x / 2 = 0
    · have hx : x = 1 := by omega
      subst hx
      have : Lib.bitLen (1 / 2) = 0 := by decide
      rw [this]
      decide
    · obtain ⟨i1, i2, i3⟩ := ih (x / 2) (by omega) h1 (by omega)
      refine ⟨by omega, ?_, ?_⟩
      · have e : 2 ^ (1 + Lib.bitLen (x / 2) - 1) = 2 * 2 ^ (Lib.bitLen (x / 2) - 1) := by
          rw [← Nat.pow_succ']
          congr 1
          omega
        omega
      · have e : 2 ^ (1 + Lib.bitLen (x / 2)) = 2 * 2 ^ Lib.bitLen (x / 2) := by
          rw [Nat.add_comm, Nat.pow_succ']
        omega
end Go.Kq
