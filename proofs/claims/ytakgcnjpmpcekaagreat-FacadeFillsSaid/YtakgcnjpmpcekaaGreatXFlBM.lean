/- Chapter 24: slices.IndexFunc and ContainsFunc at the chapter's elements. Printed by gen_cf.py. · Chapter 24: the program's Check. -/
import Derived.Test.YtakgcnjpmpcekaaGreatXFlAM
namespace Go.Proofs.YtakgcnjpmpcekaaGreat
open Go.RowKit Go.Kq

set_option maxHeartbeats 1000000 in
theorem index_fields (A : Option Addr) (n cap : Nat) (vs : List Fc) (p : Fc → Bool) (w : World) (h : Rd Fc.cells 2 w A n vs) (hn : n ≤ 100000000) (hf : ∀ v w', Kp No w w' → Calls Tryz.prog 48 #[Fc.val v] w' fun e w'' => e = .returned (.bool (p v)) ∧ Kp No w' w'') :
    Calls Tryz.prog 71 #[.slice A n cap, .func (.func 48) #[] #[]] w fun e w' => e = .returned (.int .i64 (ixI p vs)) ∧ Kp No w w' := by
  have HF := Lib.hid hf
  clear hf
  go_enter Tryz.func71, Tryz.ntmps71
  go_wp2_with fail
  go_loopw [8] (fun i wr => ∃ k : Nat, k ≤ n ∧ i = .int .i64 k ∧ (vs.take k).any p = false ∧ Kp No w wr) (fun i _ => n - (intOf i).toNat)
  case atStart => exact ⟨0, by omega, rfl, by simp, Kp.refl _ _⟩
  case round =>
    obtain ⟨k, hk, rfl, hno, hkp⟩ := hrel
    by_cases hlt : k < n
    · obtain ⟨v, hv⟩ : ∃ v, vs[k]? = some v := ⟨_, List.getElem?_eq_getElem (by rw [h.1]; exact hlt)⟩
      obtain ⟨b, o, rfl, hb, hc⟩ := h.2 k v hv
      have c0 := hkp.cell (hc 0 _ rfl) (fun h => h)
      have c1 := hkp.cell (hc 1 _ rfl) (fun h => h)
      simp only [Nat.add_zero] at c0
      have Ht := Lib.hid (any_take_succ p vs k v hv)
      have Hno := Lib.hid hno
      have Hv := Lib.hid hv
      have HC := Lib.hid (HF.out v _ hkp)
      have HK := Lib.hid hkp
      clear hno hv hc hkp
      cases hbad : p v
      · rw [hbad] at HC
        have HB := Lib.hid hbad
        clear hbad
        simp only [Fc.val] at HC
        go_wp2_with (go_at_call 48; refine HC.out.mono ?_; rintro e w' ⟨rfl, hkp'⟩)
        go_roundw
        case rel => exact ⟨k + 1, by omega, by go_num, by rw [Ht.out, Hno.out, HB.out]; rfl, HK.out.tr hkp'⟩
        case measure => simp [intOf]; omega
      · rw [hbad] at HC
        have HB := Lib.hid hbad
        clear hbad
        simp only [Fc.val] at HC
        go_wp2_with (go_at_call 48; refine HC.out.mono ?_; rintro e w' ⟨rfl, hkp'⟩)
        go_ret
        exact ⟨by rw [ixI_at Hno.out Hv.out HB.out]; rfl, HK.out.tr hkp'⟩
    · have HK := Lib.hid hkp
      have Hno := Lib.hid hno
      clear hkp hno
      go_wp2
      go_ret
      refine ⟨?_, HK.out⟩
      have hno := Hno.out
      rw [List.take_of_length_le (by rw [h.1]; omega)] at hno
      rw [ixI_none hno]
      rfl
set_option maxHeartbeats 1000000 in
theorem contains_fields (A : Option Addr) (n cap : Nat) (vs : List Fc) (p : Fc → Bool) (w : World) (h : Rd Fc.cells 2 w A n vs) (hn : n ≤ 100000000) (hf : ∀ v w', Kp No w w' → Calls Tryz.prog 48 #[Fc.val v] w' fun e w'' => e = .returned (.bool (p v)) ∧ Kp No w' w'') :
    Calls Tryz.prog 49 #[.slice A n cap, .func (.func 48) #[] #[]] w fun e w' => e = .returned (.bool (vs.any p)) ∧ Kp No w w' := by
  have HI := Lib.hid (index_fields A n cap vs p w h hn hf)
  have HA := Lib.hid (ixI_any p vs)
  clear hf
  generalize ixI p vs = i at HI HA
  go_enter Tryz.func49, Tryz.ntmps49
  go_wp2_with (go_at_call 71; refine HI.out.mono ?_; rintro e w' ⟨rfl, hkp⟩)
  go_ret
  exact ⟨by first | rfl | exact ret_bool HA.out, hkp⟩
set_option maxHeartbeats 1000000 in
theorem index_fill (A : Option Addr) (n cap : Nat) (vs : List Int) (p : Int → Bool) (w : World) (h : RdI .i64 w A n vs) (hn : n ≤ 100000000) (hf : ∀ v w', Kp No w w' → Calls Tryz.prog 19 #[i64V v] w' fun e w'' => e = .returned (.bool (p v)) ∧ Kp No w' w'') :
    Calls Tryz.prog 38 #[.slice A n cap, .func (.func 19) #[] #[]] w fun e w' => e = .returned (.int .i64 (ixI p vs)) ∧ Kp No w w' := by
  have HF := Lib.hid hf
  clear hf
  go_enter Tryz.func38, Tryz.ntmps38
  go_wp2_with fail
  go_loopw [8] (fun i wr => ∃ k : Nat, k ≤ n ∧ i = .int .i64 k ∧ (vs.take k).any p = false ∧ Kp No w wr) (fun i _ => n - (intOf i).toNat)
  case atStart => exact ⟨0, by omega, rfl, by simp, Kp.refl _ _⟩
  case round =>
    obtain ⟨k, hk, rfl, hno, hkp⟩ := hrel
    by_cases hlt : k < n
    · obtain ⟨v, hv⟩ : ∃ v, vs[k]? = some v := ⟨_, List.getElem?_eq_getElem (by rw [h.1]; exact hlt)⟩
      obtain ⟨b, o, rfl, hb, hc⟩ := h.2 k v hv
      have c0 := hkp.cell hc (fun h => h)
      have Ht := Lib.hid (any_take_succ p vs k v hv)
      have Hno := Lib.hid hno
      have Hv := Lib.hid hv
      have HC := Lib.hid (HF.out v _ hkp)
      have HK := Lib.hid hkp
      clear hno hv hc hkp
      cases hbad : p v
      · rw [hbad] at HC
        have HB := Lib.hid hbad
        clear hbad
        simp only [i64V] at HC
        go_wp2_with (go_at_call 19; refine HC.out.mono ?_; rintro e w' ⟨rfl, hkp'⟩)
        go_roundw
        case rel => exact ⟨k + 1, by omega, by go_num, by rw [Ht.out, Hno.out, HB.out]; rfl, HK.out.tr hkp'⟩
        case measure => simp [intOf]; omega
      · rw [hbad] at HC
        have HB := Lib.hid hbad
        clear hbad
        simp only [i64V] at HC
        go_wp2_with (go_at_call 19; refine HC.out.mono ?_; rintro e w' ⟨rfl, hkp'⟩)
        go_ret
        exact ⟨by rw [ixI_at Hno.out Hv.out HB.out]; rfl, HK.out.tr hkp'⟩
    · have HK := Lib.hid hkp
      have Hno := Lib.hid hno
      clear hkp hno
      go_wp2
      go_ret
      refine ⟨?_, HK.out⟩
      have hno := Hno.out
      rw [List.take_of_length_le (by rw [h.1]; omega)] at hno
      rw [ixI_none hno]
      rfl
set_option maxHeartbeats 1000000 in
theorem contains_fill (A : Option Addr) (n cap : Nat) (vs : List Int) (p : Int → Bool) (w : World) (h : RdI .i64 w A n vs) (hn : n ≤ 100000000) (hf : ∀ v w', Kp No w w' → Calls Tryz.prog 19 #[i64V v] w' fun e w'' => e = .returned (.bool (p v)) ∧ Kp No w' w'') :
    Calls Tryz.prog 18 #[.slice A n cap, .func (.func 19) #[] #[]] w fun e w' => e = .returned (.bool (vs.any p)) ∧ Kp No w w' := by
  have HI := Lib.hid (index_fill A n cap vs p w h hn hf)
  have HA := Lib.hid (ixI_any p vs)
  clear hf
  generalize ixI p vs = i at HI HA
  go_enter Tryz.func18, Tryz.ntmps18
  go_wp2_with (go_at_call 38; refine HI.out.mono ?_; rintro e w' ⟨rfl, hkp⟩)
  go_ret
  exact ⟨by first | rfl | exact ret_bool HA.out, hkp⟩
set_option maxHeartbeats 1000000 in
theorem index_feet {cv : Value} (A : Option Addr) (n cap : Nat) (vs : List Int) (p : Int → Bool) (w : World) (h : RdI .i64 w A n vs) (hn : n ≤ 100000000) (hf : ∀ v w', Kp No w w' → Calls Tryz.prog 22 #[i64V v, cv] w' fun e w'' => e = .returned (.bool (p v)) ∧ Kp No w' w'') :
    Calls Tryz.prog 38 #[.slice A n cap, .func (.func 22) #[] #[cv]] w fun e w' => e = .returned (.int .i64 (ixI p vs)) ∧ Kp No w w' := by
  have HF := Lib.hid hf
  clear hf
  go_enter Tryz.func38, Tryz.ntmps38
  go_wp2_with fail
  go_loopw [8] (fun i wr => ∃ k : Nat, k ≤ n ∧ i = .int .i64 k ∧ (vs.take k).any p = false ∧ Kp No w wr) (fun i _ => n - (intOf i).toNat)
  case atStart => exact ⟨0, by omega, rfl, by simp, Kp.refl _ _⟩
  case round =>
    obtain ⟨k, hk, rfl, hno, hkp⟩ := hrel
    by_cases hlt : k < n
    · obtain ⟨v, hv⟩ : ∃ v, vs[k]? = some v := ⟨_, List.getElem?_eq_getElem (by rw [h.1]; exact hlt)⟩
      obtain ⟨b, o, rfl, hb, hc⟩ := h.2 k v hv
      have c0 := hkp.cell hc (fun h => h)
      have Ht := Lib.hid (any_take_succ p vs k v hv)
      have Hno := Lib.hid hno
      have Hv := Lib.hid hv
      have HC := Lib.hid (HF.out v _ hkp)
      have HK := Lib.hid hkp
      clear hno hv hc hkp
      cases hbad : p v
      · rw [hbad] at HC
        have HB := Lib.hid hbad
        clear hbad
        simp only [i64V] at HC
        go_wp2_with (go_at_call 22; refine HC.out.mono ?_; rintro e w' ⟨rfl, hkp'⟩)
        go_roundw
        case rel => exact ⟨k + 1, by omega, by go_num, by rw [Ht.out, Hno.out, HB.out]; rfl, HK.out.tr hkp'⟩
        case measure => simp [intOf]; omega
      · rw [hbad] at HC
        have HB := Lib.hid hbad
        clear hbad
        simp only [i64V] at HC
        go_wp2_with (go_at_call 22; refine HC.out.mono ?_; rintro e w' ⟨rfl, hkp'⟩)
        go_ret
        exact ⟨by rw [ixI_at Hno.out Hv.out HB.out]; rfl, HK.out.tr hkp'⟩
    · have HK := Lib.hid hkp
      have Hno := Lib.hid hno
      clear hkp hno
      go_wp2
      go_ret
      refine ⟨?_, HK.out⟩
      have hno := Hno.out
      rw [List.take_of_length_le (by rw [h.1]; omega)] at hno
      rw [ixI_none hno]
      rfl
set_option maxHeartbeats 1000000 in
theorem contains_feet {cv : Value} (A : Option Addr) (n cap : Nat) (vs : List Int) (p : Int → Bool) (w : World) (h : RdI .i64 w A n vs) (hn : n ≤ 100000000) (hf : ∀ v w', Kp No w w' → Calls Tryz.prog 22 #[i64V v, cv] w' fun e w'' => e = .returned (.bool (p v)) ∧ Kp No w' w'') :
    Calls Tryz.prog 18 #[.slice A n cap, .func (.func 22) #[] #[cv]] w fun e w' => e = .returned (.bool (vs.any p)) ∧ Kp No w w' := by
  have HI := Lib.hid (index_feet A n cap vs p w h hn hf)
  have HA := Lib.hid (ixI_any p vs)
  clear hf
  generalize ixI p vs = i at HI HA
  go_enter Tryz.func18, Tryz.ntmps18
  go_wp2_with (go_at_call 38; refine HI.out.mono ?_; rintro e w' ⟨rfl, hkp⟩)
  go_ret
  exact ⟨by first | rfl | exact ret_bool HA.out, hkp⟩
set_option maxHeartbeats 1000000 in
theorem index_plan {cv : Value} (A : Option Addr) (n cap : Nat) (vs : List Int) (p : Int → Bool) (w : World) (h : RdI .i64 w A n vs) (hn : n ≤ 100000000) (hf : ∀ v w', Kp No w w' → Calls Tryz.prog 53 #[i64V v, cv] w' fun e w'' => e = .returned (.bool (p v)) ∧ Kp No w' w'') :
    Calls Tryz.prog 73 #[.slice A n cap, .func (.func 53) #[] #[cv]] w fun e w' => e = .returned (.int .i64 (ixI p vs)) ∧ Kp No w w' := by
  have HF := Lib.hid hf
  clear hf
  go_enter Tryz.func73, Tryz.ntmps73
  go_wp2_with fail
  go_loopw [8] (fun i wr => ∃ k : Nat, k ≤ n ∧ i = .int .i64 k ∧ (vs.take k).any p = false ∧ Kp No w wr) (fun i _ => n - (intOf i).toNat)
  case atStart => exact ⟨0, by omega, rfl, by simp, Kp.refl _ _⟩
  case round =>
    obtain ⟨k, hk, rfl, hno, hkp⟩ := hrel
    by_cases hlt : k < n
    · obtain ⟨v, hv⟩ : ∃ v, vs[k]? = some v := ⟨_, List.getElem?_eq_getElem (by rw [h.1]; exact hlt)⟩
      obtain ⟨b, o, rfl, hb, hc⟩ := h.2 k v hv
      have c0 := hkp.cell hc (fun h => h)
      have Ht := Lib.hid (any_take_succ p vs k v hv)
      have Hno := Lib.hid hno
      have Hv := Lib.hid hv
      have HC := Lib.hid (HF.out v _ hkp)
      have HK := Lib.hid hkp
      clear hno hv hc hkp
      cases hbad : p v
      · rw [hbad] at HC
        have HB := Lib.hid hbad
        clear hbad
        simp only [i64V] at HC
        go_wp2_with (go_at_call 53; refine HC.out.mono ?_; rintro e w' ⟨rfl, hkp'⟩)
        go_roundw
        case rel => exact ⟨k + 1, by omega, by go_num, by rw [Ht.out, Hno.out, HB.out]; rfl, HK.out.tr hkp'⟩
        case measure => simp [intOf]; omega
      · rw [hbad] at HC
        have HB := Lib.hid hbad
        clear hbad
        simp only [i64V] at HC
        go_wp2_with (go_at_call 53; refine HC.out.mono ?_; rintro e w' ⟨rfl, hkp'⟩)
        go_ret
        exact ⟨by rw [ixI_at Hno.out Hv.out HB.out]; rfl, HK.out.tr hkp'⟩
    · have HK := Lib.hid hkp
      have Hno := Lib.hid hno
      clear hkp hno
      go_wp2
      go_ret
      refine ⟨?_, HK.out⟩
      have hno := Hno.out
      rw [List.take_of_length_le (by rw [h.1]; omega)] at hno
      rw [ixI_none hno]
      rfl
set_option maxHeartbeats 1000000 in
theorem contains_plan {cv : Value} (A : Option Addr) (n cap : Nat) (vs : List Int) (p : Int → Bool) (w : World) (h : RdI .i64 w A n vs) (hn : n ≤ 100000000) (hf : ∀ v w', Kp No w w' → Calls Tryz.prog 53 #[i64V v, cv] w' fun e w'' => e = .returned (.bool (p v)) ∧ Kp No w' w'') :
    Calls Tryz.prog 52 #[.slice A n cap, .func (.func 53) #[] #[cv]] w fun e w' => e = .returned (.bool (vs.any p)) ∧ Kp No w w' := by
  have HI := Lib.hid (index_plan A n cap vs p w h hn hf)
  have HA := Lib.hid (ixI_any p vs)
  clear hf
  generalize ixI p vs = i at HI HA
  go_enter Tryz.func52, Tryz.ntmps52
  go_wp2_with (go_at_call 73; refine HI.out.mono ?_; rintro e w' ⟨rfl, hkp⟩)
  go_ret
  exact ⟨by first | rfl | exact ret_bool HA.out, hkp⟩
end Go.Proofs.YtakgcnjpmpcekaaGreat

namespace Go.Proofs.YtakgcnjpmpcekaaGreat
open Go.RowKit Go.Kq

theorem kind_of {f : Fc} (h : badF f = false) : 1 ≤ f.k ∧ f.k ≤ 4 ∧ 1 ≤ f.w ∧ f.w ≤ 10000000 := by
  unfold badF oB at h
  simp only [Bool.or_eq_false_iff, decide_eq_false_iff_not] at h
  omega
theorem twin_cell {w : World} {g : Nat} {t : TypeId} (h : w.heap[g]? = some (.cells #[.int .i64 0, .int .i64 2, .int .i64 1, .int .i64 3, .int .i64 4] t (0, 0))) {k : Int} (hk : 1 ≤ k ∧ k ≤ 4) : w.cell? ⟨g, k.toNat, none⟩ = some (.int .i64 (mirK k)) := by
  rw [cell_of_row _ _ _ _ _ _ h]
  obtain rfl | rfl | rfl | rfl : k = 1 ∨ k = 2 ∨ k = 3 ∨ k = 4 := by omega
  all_goals rfl
theorem form_all (l : List Fc) (k : Nat) : (List.range (k + 1)).all (formB l) = ((List.range k).all (formB l) && formB l k) := by
  rw [List.range_succ, List.all_append]
  simp
theorem form_stop {l : List Fc} {k : Nat} (hk : k < l.length) (h : formB l k = false) : (List.range l.length).all (formB l) = false := by
  rw [List.all_eq_false]
  exact ⟨k, List.mem_range.2 hk, by simp [h]⟩
theorem getD_at {l : List Fc} {k : Nat} {f : Fc} (h : l[k]? = some f) : l.getD k default = f := by
  rw [List.getD_eq_getElem?_getD, h]
  rfl
theorem rdf_at {w : World} {A : Option Addr} {n : Nat} {l : List Fc} (h : RdF w A n l) {k : Nat} {f : Fc} (hf : l[k]? = some f) : ∃ b o, A = some ⟨b, o, none⟩ ∧ b < w.heap.size ∧ w.cell? ⟨b, o + k * 2, none⟩ = some (.int .i64 f.w) ∧ w.cell? ⟨b, o + k * 2 + 1, none⟩ = some (.int .i64 f.k) := by
  obtain ⟨b, o, hA, hb, hc⟩ := h.2 k f hf
  have c0 := hc 0 _ rfl
  have c1 := hc 1 _ rfl
  rw [Nat.add_zero] at c0
  exact ⟨b, o, hA, hb, c0, c1⟩
set_option maxHeartbeats 8000000 in
set_option maxRecDepth 100000 in
theorem Check_any (A : Option Addr) (n ca : Nat) (l : List Fc) (w : World) (hR : RdF w A n l) (hn : n ≤ 100000000) :
    Calls Tryz.prog 26 #[.slice A n ca] w fun e w' => e = .returned (.int .i64 (chkF l)) ∧ Kp No w w' := by
  have hl := hR.1
  have HC := Lib.hid (contains_fields A n ca l badF w hR hn fun v w' _ => badF_any v w')
  have HR := Lib.hid hR
  have HE : chkF l = if 12 < n then 3 else if l.any badF then 2 else if (List.range n).all (formB l) then 0 else 6 := by rw [← hl]; rfl
  clear hR
  by_cases h1 : 12 < n
  · rw [HE, if_pos h1]
    clear HE
    go_enter Tryz.func26, Tryz.ntmps26
    go_wp2_with fail
    go_ret
    exact ⟨rfl, Kp.refl _ _⟩
  rw [if_neg h1] at HE
  have h1' : n ≤ 12 := by omega
  cases hb : l.any badF
  rotate_left
  · rw [hb] at HC
    rw [HE, hb]
    clear HE hb
    go_enter Tryz.func26, Tryz.ntmps26
    go_wp2_with fail
    refine HC.out.mono ?_
    rintro e w1 ⟨rfl, hk⟩
    go_wp2_with fail
    go_ret
    exact ⟨rfl, hk⟩
  rw [hb] at HC
  rw [hb] at HE
  simp only [Bool.false_eq_true, if_false] at HE
  have HB := Lib.hid hb
  replace HE := Lib.hid HE
  have HL := Lib.hid hl
  clear hb hl
  go_enter Tryz.func26, Tryz.ntmps26
  go_wp2_with fail
  refine HC.out.mono ?_
  rintro e w1 ⟨rfl, hk⟩
  have HK := Lib.hid hk
  clear HC hk
  obtain ⟨g, hg⟩ : ∃ g, g = w1.heap.size := ⟨_, rfl⟩
  have hbx : (w1.alloc (.cells #[.int .i64 0, .int .i64 2, .int .i64 1, .int .i64 3, .int .i64 4] 98)).heap[w1.heap.size]? = some (.cells #[.int .i64 0, .int .i64 2, .int .i64 1, .int .i64 3, .int .i64 4] 98 (0, 0)) := heap_alloc_new _ _
  have hka : Kp No w (w1.alloc (.cells #[.int .i64 0, .int .i64 2, .int .i64 1, .int .i64 3, .int .i64 4] 98)) := HK.out.tr (Kp.alloc _ _ _)
  go_wp2_with fail
  rw [← hg] at hbx ⊢
  generalize (w1.alloc (.cells #[.int .i64 0, .int .i64 2, .int .i64 1, .int .i64 3, .int .i64 4] 98)) = w2 at *
  clear hg
  have HX := Lib.hid hbx
  have HA := Lib.hid hka
  clear hbx hka
  go_loopw [19] (fun i wr => ∃ k : Nat, k ≤ n ∧ i = .int .i64 k ∧ (List.range k).all (formB l) = true ∧ Kp No w2 wr) (fun i _ => n - (intOf i).toNat)
  case atStart => exact ⟨0, by omega, rfl, rfl, Kp.refl _ _⟩
  case round =>
    obtain ⟨k, hk, rfl, hno, hkp⟩ := hrel
    by_cases hlt : k < n
    · obtain ⟨f, hf⟩ : ∃ f, l[k]? = some f := ⟨_, List.getElem?_eq_getElem (by rw [HL.out]; exact hlt)⟩
      obtain ⟨u, hu⟩ : ∃ u, l[n - 1 - k]? = some u := ⟨_, List.getElem?_eq_getElem (by rw [HL.out]; omega)⟩
      have hkw := HA.out.tr hkp
      obtain ⟨b, o, rfl, hbb, c0, c1⟩ := rdf_at (HR.out.no hkw) hf
      obtain ⟨b', o', hA', _, e0, e1⟩ := rdf_at (HR.out.no hkw) hu
      injection hA' with hA'
      injection hA' with hA1 hA2
      subst hA1 hA2
      have hfb : badF f = false := by
        have := List.any_eq_false.1 HB.out f (List.mem_of_getElem? hf)
        simpa using this
      have hkd := kind_of hfb
      have hxr := hkp.heap HX.out id
      have htw := twin_cell hxr ⟨hkd.1, hkd.2.1⟩
      have hgl := (Array.getElem?_eq_some_iff.1 hxr).1
      have HQ := Lib.hid (show formB l k = (decide (u.w = f.w) && decide (u.k = mirK f.k)) by unfold formB; rw [HL.out, getD_at hu, getD_at hf])
      have HS := Lib.hid (fun h => form_stop (l := l) (k := k) (by rw [HL.out]; exact hlt) h)
      have HN := Lib.hid hno
      have HKW := Lib.hid hkw
      have HKP := Lib.hid hkp
      obtain ⟨fw, fk⟩ := f
      obtain ⟨uw, uk⟩ := u
      dsimp only at *
      have hi : (n : Int) - 1 - k = ((n - 1 - k : Nat) : Int) := by omega
      have h0 : 0 ≤ fk := by omega
      have h5 : fk < 5 := by omega
      generalize mirK fk = mk at *
      clear hno hf hu hfb hkd hkp hkw hxr
      by_cases hq : uw = fw
      · have d1 : (uw != fw) = false := by simp [hq]
        by_cases hq2 : uk = mk
        · have d2 : (uk != mk) = false := by simp [hq2]
          have HF := Lib.hid (show (decide (uw = fw) && decide (uk = mk)) = true by simp [hq, hq2])
          clear hq hq2
          go_wp2_with fail
          go_quiet (fail)
          go_wp2_with fail
          go_roundw
          case rel => exact ⟨k + 1, by omega, by go_num, by rw [form_all, HN.out, HQ.out, HF.out]; rfl, HKP.out.tr (((Kp.alloc _ _ _).tr (Kp.alloc _ _ _)).tr (Kp.drewN _ _ _))⟩
          case measure => simp [intOf]; omega
        · have d2 : (uk != mk) = true := by simp [hq2]
          have HF := Lib.hid (show (decide (uw = fw) && decide (uk = mk)) = false by simp [hq2])
          clear hq hq2
          go_wp2_with fail
          go_quiet (fail)
          go_wp2_with fail
          go_ret
          exact ⟨by rw [HE.out, ← HL.out, HS.out (by rw [HQ.out, HF.out])]; rfl, HA.out.tr (HKP.out.tr (((Kp.alloc _ _ _).tr (Kp.alloc _ _ _)).tr (Kp.drewN _ _ _)))⟩
      · have d1 : (uw != fw) = true := by simp [hq]
        have HF := Lib.hid (show (decide (uw = fw) && decide (uk = mk)) = false by simp [hq])
        clear hq
        go_wp2_with fail
        go_quiet (fail)
        go_wp2_with fail
        go_ret
        exact ⟨by rw [HE.out, ← HL.out, HS.out (by rw [HQ.out, HF.out])]; rfl, HA.out.tr (HKP.out.tr (((Kp.alloc _ _ _).tr (Kp.alloc _ _ _)).tr (Kp.drewN _ _ _)))⟩
    · obtain rfl : k = n := by omega
      have HN := Lib.hid hno
      have HKP := Lib.hid hkp
      clear hno hkp
      go_wp2
      go_ret
      exact ⟨by rw [HE.out, HN.out]; rfl, HA.out.tr HKP.out⟩
end Go.Proofs.YtakgcnjpmpcekaaGreat
