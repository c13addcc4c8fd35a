/- Chapter 13: slices.ContainsFunc at the chapter's elements. Printed by gen_cf.py. -/
import Derived.Test.YtlieijnhaolnhaaGreatXCmlM
import Derived.Test.YtlieijnhaolnhaaGreatXSpfM
namespace Go.Proofs.YtlieijnhaolnhaaGreat
open Go.RowKit Go.Kq

theorem any_take_succ {α : Type} (p : α → Bool) (l : List α) (k : Nat) (v : α) (h : l[k]? = some v) : (l.take (k + 1)).any p = ((l.take k).any p || p v) := by
  rw [List.take_add_one, h]
  simp
/-- A row: a pipe, its toe, its chest. -/
structure Rw where
  r : Int
  n : Int
  b : Int
  f : Int
  c : Int
def Rw.pp (x : Rw) : Pp := (x.r, x.n)
def rwV (x : Rw) : Value := .agg #[.int .i64 x.r, .int .i64 x.n, .int .i64 x.b, .int .i64 x.f, .int .i64 x.c]
def rwC (x : Rw) : List Value := [.int .i64 x.r, .int .i64 x.n, .int .i64 x.b, .int .i64 x.f, .int .i64 x.c]
def ivP (x : Int × Int) : Value := .agg #[.int .i64 x.1, .int .i64 x.2]
def ivC (x : Int × Int) : List Value := [.int .i64 x.1, .int .i64 x.2]
def i64V (x : Int) : Value := .int .i64 x
set_option maxHeartbeats 1000000 in
theorem index_iv (A : Option Addr) (n cap : Nat) (vs : List (Int × Int)) (p : (Int × Int) → Bool) (w : World) (h : Rd ivC 2 w A n vs) (hn : n ≤ 100000000) (hf : ∀ v w', Kp No w w' → Calls Tryz.prog 49 #[ivP v] w' fun e w'' => e = .returned (.bool (p v)) ∧ Kp No w' w'') :
    Calls Tryz.prog 89 #[.slice A n cap, .func (.func 49) #[] #[]] w fun e w' => ∃ i : Int, e = .returned (.int .i64 i) ∧ (decide (0 ≤ i) = vs.any p) ∧ Kp No w w' := by
  have HF := Lib.hid hf
  clear hf
  go_enter Tryz.func89, Tryz.ntmps89
  go_wp2_with fail
  go_loopw [8] (fun i wr => ∃ k : Nat, k ≤ n ∧ i = .int .i64 k ∧ (vs.take k).any p = false ∧ Kp No w wr) (fun i _ => n - (intOf i).toNat)
  case atStart => exact ⟨0, by omega, rfl, by simp, Kp.refl _ _⟩
  case round =>
    obtain ⟨k, hk, rfl, hno, hkp⟩ := hrel
    by_cases hlt : k < n
    · obtain ⟨v, hv⟩ : ∃ v, vs[k]? = some v := ⟨_, List.getElem?_eq_getElem (by rw [h.1]; exact hlt)⟩
      obtain ⟨b, o, rfl, hb, hc⟩ := h.2 k v hv
      have c0 := hkp.cell (hc 0 _ rfl) (fun h => h)
      have c1 := hkp.cell (hc 1 _ rfl) (fun h => h)
      simp only [Nat.add_zero] at c0
      have Ht := Lib.hid (any_take_succ p vs k v hv)
      have Hno := Lib.hid hno
      have Hv := Lib.hid hv
      have HC := Lib.hid (HF.out v _ hkp)
      have HK := Lib.hid hkp
      clear hno hv hc hkp
      cases hbad : p v
      · rw [hbad] at HC
        have HB := Lib.hid hbad
        clear hbad
        simp only [ivP] at HC
        go_wp2_with (go_at_call 49; refine HC.out.mono ?_; rintro e w' ⟨rfl, hkp'⟩)
        go_roundw
        case rel => exact ⟨k + 1, by omega, by go_num, by rw [Ht.out, Hno.out, HB.out]; rfl, HK.out.tr hkp'⟩
        case measure => simp [intOf]; omega
      · rw [hbad] at HC
        have HB := Lib.hid hbad
        clear hbad
        simp only [ivP] at HC
        go_wp2_with (go_at_call 49; refine HC.out.mono ?_; rintro e w' ⟨rfl, hkp'⟩)
        go_ret
        refine ⟨k, rfl, ?_, HK.out.tr hkp'⟩
        have : vs.any p = true := List.any_eq_true.2 ⟨v, List.mem_of_getElem? Hv.out, HB.out⟩
        rw [this]
        simp
    · have HK := Lib.hid hkp
      have Hno := Lib.hid hno
      clear hkp hno
      go_wp2
      go_ret
      refine ⟨-1, rfl, ?_, HK.out⟩
      have hno := Hno.out
      rw [List.take_of_length_le (by rw [h.1]; omega)] at hno
      rw [hno]
      rfl
theorem contains_iv (A : Option Addr) (n cap : Nat) (vs : List (Int × Int)) (p : (Int × Int) → Bool) (w : World) (h : Rd ivC 2 w A n vs) (hn : n ≤ 100000000) (hf : ∀ v w', Kp No w w' → Calls Tryz.prog 49 #[ivP v] w' fun e w'' => e = .returned (.bool (p v)) ∧ Kp No w' w'') :
    Calls Tryz.prog 48 #[.slice A n cap, .func (.func 49) #[] #[]] w fun e w' => e = .returned (.bool (vs.any p)) ∧ Kp No w w' := by
  have HI := Lib.hid (index_iv A n cap vs p w h hn hf)
  clear hf
  go_enter Tryz.func48, Tryz.ntmps48
  go_wp2_with (go_at_call 89; refine HI.out.mono ?_; rintro e w' ⟨i, rfl, hi, hkp⟩)
  go_ret
  exact ⟨by first | rfl | exact ret_bool hi, hkp⟩
set_option maxHeartbeats 1000000 in
theorem index_rowk (A : Option Addr) (n cap : Nat) (vs : List Rw) (p : Rw → Bool) (w : World) (h : Rd rwC 5 w A n vs) (hn : n ≤ 100000000) (hf : ∀ v w', Kp No w w' → Calls Tryz.prog 45 #[rwV v] w' fun e w'' => e = .returned (.bool (p v)) ∧ Kp No w' w'') :
    Calls Tryz.prog 87 #[.slice A n cap, .func (.func 45) #[] #[]] w fun e w' => ∃ i : Int, e = .returned (.int .i64 i) ∧ (decide (0 ≤ i) = vs.any p) ∧ Kp No w w' := by
  have HF := Lib.hid hf
  clear hf
  go_enter Tryz.func87, Tryz.ntmps87
  go_wp2_with fail
  go_loopw [8] (fun i wr => ∃ k : Nat, k ≤ n ∧ i = .int .i64 k ∧ (vs.take k).any p = false ∧ Kp No w wr) (fun i _ => n - (intOf i).toNat)
  case atStart => exact ⟨0, by omega, rfl, by simp, Kp.refl _ _⟩
  case round =>
    obtain ⟨k, hk, rfl, hno, hkp⟩ := hrel
    by_cases hlt : k < n
    · obtain ⟨v, hv⟩ : ∃ v, vs[k]? = some v := ⟨_, List.getElem?_eq_getElem (by rw [h.1]; exact hlt)⟩
      obtain ⟨b, o, rfl, hb, hc⟩ := h.2 k v hv
      have c0 := hkp.cell (hc 0 _ rfl) (fun h => h)
      have c1 := hkp.cell (hc 1 _ rfl) (fun h => h)
      have c2 := hkp.cell (hc 2 _ rfl) (fun h => h)
      have c3 := hkp.cell (hc 3 _ rfl) (fun h => h)
      have c4 := hkp.cell (hc 4 _ rfl) (fun h => h)
      simp only [Nat.add_zero] at c0
      have Ht := Lib.hid (any_take_succ p vs k v hv)
      have Hno := Lib.hid hno
      have Hv := Lib.hid hv
      have HC := Lib.hid (HF.out v _ hkp)
      have HK := Lib.hid hkp
      clear hno hv hc hkp
      cases hbad : p v
      · rw [hbad] at HC
        have HB := Lib.hid hbad
        clear hbad
        simp only [rwV] at HC
        go_wp2_with (go_at_call 45; refine HC.out.mono ?_; rintro e w' ⟨rfl, hkp'⟩)
        go_roundw
        case rel => exact ⟨k + 1, by omega, by go_num, by rw [Ht.out, Hno.out, HB.out]; rfl, HK.out.tr hkp'⟩
        case measure => simp [intOf]; omega
      · rw [hbad] at HC
        have HB := Lib.hid hbad
        clear hbad
        simp only [rwV] at HC
        go_wp2_with (go_at_call 45; refine HC.out.mono ?_; rintro e w' ⟨rfl, hkp'⟩)
        go_ret
        refine ⟨k, rfl, ?_, HK.out.tr hkp'⟩
        have : vs.any p = true := List.any_eq_true.2 ⟨v, List.mem_of_getElem? Hv.out, HB.out⟩
        rw [this]
        simp
    · have HK := Lib.hid hkp
      have Hno := Lib.hid hno
      clear hkp hno
      go_wp2
      go_ret
      refine ⟨-1, rfl, ?_, HK.out⟩
      have hno := Hno.out
      rw [List.take_of_length_le (by rw [h.1]; omega)] at hno
      rw [hno]
      rfl
theorem contains_rowk (A : Option Addr) (n cap : Nat) (vs : List Rw) (p : Rw → Bool) (w : World) (h : Rd rwC 5 w A n vs) (hn : n ≤ 100000000) (hf : ∀ v w', Kp No w w' → Calls Tryz.prog 45 #[rwV v] w' fun e w'' => e = .returned (.bool (p v)) ∧ Kp No w' w'') :
    Calls Tryz.prog 46 #[.slice A n cap, .func (.func 45) #[] #[]] w fun e w' => e = .returned (.bool (vs.any p)) ∧ Kp No w w' := by
  have HI := Lib.hid (index_rowk A n cap vs p w h hn hf)
  clear hf
  go_enter Tryz.func46, Tryz.ntmps46
  go_wp2_with (go_at_call 87; refine HI.out.mono ?_; rintro e w' ⟨i, rfl, hi, hkp⟩)
  go_ret
  exact ⟨by first | rfl | exact ret_bool hi, hkp⟩
set_option maxHeartbeats 1000000 in
theorem index_rowo {cv : Value} (A : Option Addr) (n cap : Nat) (vs : List Rw) (p : Rw → Bool) (w : World) (h : Rd rwC 5 w A n vs) (hn : n ≤ 100000000) (hf : ∀ v w', Kp No w w' → Calls Tryz.prog 83 #[rwV v, cv] w' fun e w'' => e = .returned (.bool (p v)) ∧ Kp No w' w'') :
    Calls Tryz.prog 87 #[.slice A n cap, .func (.func 83) #[] #[cv]] w fun e w' => ∃ i : Int, e = .returned (.int .i64 i) ∧ (decide (0 ≤ i) = vs.any p) ∧ Kp No w w' := by
  have HF := Lib.hid hf
  clear hf
  go_enter Tryz.func87, Tryz.ntmps87
  go_wp2_with fail
  go_loopw [8] (fun i wr => ∃ k : Nat, k ≤ n ∧ i = .int .i64 k ∧ (vs.take k).any p = false ∧ Kp No w wr) (fun i _ => n - (intOf i).toNat)
  case atStart => exact ⟨0, by omega, rfl, by simp, Kp.refl _ _⟩
  case round =>
    obtain ⟨k, hk, rfl, hno, hkp⟩ := hrel
    by_cases hlt : k < n
    · obtain ⟨v, hv⟩ : ∃ v, vs[k]? = some v := ⟨_, List.getElem?_eq_getElem (by rw [h.1]; exact hlt)⟩
      obtain ⟨b, o, rfl, hb, hc⟩ := h.2 k v hv
      have c0 := hkp.cell (hc 0 _ rfl) (fun h => h)
      have c1 := hkp.cell (hc 1 _ rfl) (fun h => h)
      have c2 := hkp.cell (hc 2 _ rfl) (fun h => h)
      have c3 := hkp.cell (hc 3 _ rfl) (fun h => h)
      have c4 := hkp.cell (hc 4 _ rfl) (fun h => h)
      simp only [Nat.add_zero] at c0
      have Ht := Lib.hid (any_take_succ p vs k v hv)
      have Hno := Lib.hid hno
      have Hv := Lib.hid hv
      have HC := Lib.hid (HF.out v _ hkp)
      have HK := Lib.hid hkp
      clear hno hv hc hkp
      cases hbad : p v
      · rw [hbad] at HC
        have HB := Lib.hid hbad
        clear hbad
        simp only [rwV] at HC
        go_wp2_with (go_at_call 83; refine HC.out.mono ?_; rintro e w' ⟨rfl, hkp'⟩)
        go_roundw
        case rel => exact ⟨k + 1, by omega, by go_num, by rw [Ht.out, Hno.out, HB.out]; rfl, HK.out.tr hkp'⟩
        case measure => simp [intOf]; omega
      · rw [hbad] at HC
        have HB := Lib.hid hbad
        clear hbad
        simp only [rwV] at HC
        go_wp2_with (go_at_call 83; refine HC.out.mono ?_; rintro e w' ⟨rfl, hkp'⟩)
        go_ret
        refine ⟨k, rfl, ?_, HK.out.tr hkp'⟩
        have : vs.any p = true := List.any_eq_true.2 ⟨v, List.mem_of_getElem? Hv.out, HB.out⟩
        rw [this]
        simp
    · have HK := Lib.hid hkp
      have Hno := Lib.hid hno
      clear hkp hno
      go_wp2
      go_ret
      refine ⟨-1, rfl, ?_, HK.out⟩
      have hno := Hno.out
      rw [List.take_of_length_le (by rw [h.1]; omega)] at hno
      rw [hno]
      rfl
theorem contains_rowo {cv : Value} (A : Option Addr) (n cap : Nat) (vs : List Rw) (p : Rw → Bool) (w : World) (h : Rd rwC 5 w A n vs) (hn : n ≤ 100000000) (hf : ∀ v w', Kp No w w' → Calls Tryz.prog 83 #[rwV v, cv] w' fun e w'' => e = .returned (.bool (p v)) ∧ Kp No w' w'') :
    Calls Tryz.prog 46 #[.slice A n cap, .func (.func 83) #[] #[cv]] w fun e w' => e = .returned (.bool (vs.any p)) ∧ Kp No w w' := by
  have HI := Lib.hid (index_rowo A n cap vs p w h hn hf)
  clear hf
  go_enter Tryz.func46, Tryz.ntmps46
  go_wp2_with (go_at_call 87; refine HI.out.mono ?_; rintro e w' ⟨i, rfl, hi, hkp⟩)
  go_ret
  exact ⟨by first | rfl | exact ret_bool hi, hkp⟩
set_option maxHeartbeats 1000000 in
theorem index_int (A : Option Addr) (n cap : Nat) (vs : List Int) (p : Int → Bool) (w : World) (h : RdI .i64 w A n vs) (hn : n ≤ 100000000) (hf : ∀ v w', Kp No w w' → Calls Tryz.prog 82 #[i64V v] w' fun e w'' => e = .returned (.bool (p v)) ∧ Kp No w' w'') :
    Calls Tryz.prog 119 #[.slice A n cap, .func (.func 82) #[] #[]] w fun e w' => ∃ i : Int, e = .returned (.int .i64 i) ∧ (decide (0 ≤ i) = vs.any p) ∧ Kp No w w' := by
  have HF := Lib.hid hf
  clear hf
  go_enter Tryz.func119, Tryz.ntmps119
  go_wp2_with fail
  go_loopw [8] (fun i wr => ∃ k : Nat, k ≤ n ∧ i = .int .i64 k ∧ (vs.take k).any p = false ∧ Kp No w wr) (fun i _ => n - (intOf i).toNat)
  case atStart => exact ⟨0, by omega, rfl, by simp, Kp.refl _ _⟩
  case round =>
    obtain ⟨k, hk, rfl, hno, hkp⟩ := hrel
    by_cases hlt : k < n
    · obtain ⟨v, hv⟩ : ∃ v, vs[k]? = some v := ⟨_, List.getElem?_eq_getElem (by rw [h.1]; exact hlt)⟩
      obtain ⟨b, o, rfl, hb, hc⟩ := h.2 k v hv
      have c0 := hkp.cell hc (fun h => h)
      have Ht := Lib.hid (any_take_succ p vs k v hv)
      have Hno := Lib.hid hno
      have Hv := Lib.hid hv
      have HC := Lib.hid (HF.out v _ hkp)
      have HK := Lib.hid hkp
      clear hno hv hc hkp
      cases hbad : p v
      · rw [hbad] at HC
        have HB := Lib.hid hbad
        clear hbad
        simp only [i64V] at HC
        go_wp2_with (go_at_call 82; refine HC.out.mono ?_; rintro e w' ⟨rfl, hkp'⟩)
        go_roundw
        case rel => exact ⟨k + 1, by omega, by go_num, by rw [Ht.out, Hno.out, HB.out]; rfl, HK.out.tr hkp'⟩
        case measure => simp [intOf]; omega
      · rw [hbad] at HC
        have HB := Lib.hid hbad
        clear hbad
        simp only [i64V] at HC
        go_wp2_with (go_at_call 82; refine HC.out.mono ?_; rintro e w' ⟨rfl, hkp'⟩)
        go_ret
        refine ⟨k, rfl, ?_, HK.out.tr hkp'⟩
        have : vs.any p = true := List.any_eq_true.2 ⟨v, List.mem_of_getElem? Hv.out, HB.out⟩
        rw [this]
        simp
    · have HK := Lib.hid hkp
      have Hno := Lib.hid hno
      clear hkp hno
      go_wp2
      go_ret
      refine ⟨-1, rfl, ?_, HK.out⟩
      have hno := Hno.out
      rw [List.take_of_length_le (by rw [h.1]; omega)] at hno
      rw [hno]
      rfl
theorem contains_int (A : Option Addr) (n cap : Nat) (vs : List Int) (p : Int → Bool) (w : World) (h : RdI .i64 w A n vs) (hn : n ≤ 100000000) (hf : ∀ v w', Kp No w w' → Calls Tryz.prog 82 #[i64V v] w' fun e w'' => e = .returned (.bool (p v)) ∧ Kp No w' w'') :
    Calls Tryz.prog 81 #[.slice A n cap, .func (.func 82) #[] #[]] w fun e w' => e = .returned (.bool (vs.any p)) ∧ Kp No w w' := by
  have HI := Lib.hid (index_int A n cap vs p w h hn hf)
  clear hf
  go_enter Tryz.func81, Tryz.ntmps81
  go_wp2_with (go_at_call 119; refine HI.out.mono ?_; rintro e w' ⟨i, rfl, hi, hkp⟩)
  go_ret
  exact ⟨by first | rfl | exact ret_bool hi, hkp⟩
set_option maxHeartbeats 1000000 in
theorem index_pipe {bv : Value} (A : Option Addr) (n cap : Nat) (vs : List Pp) (p : Pp → Bool) (w : World) (h : Rd pcells 2 w A n vs) (hn : n ≤ 100000000) (hf : ∀ v w', Kp No w w' → Calls Tryz.prog 40 #[bv, ep v] w' fun e w'' => e = .returned (.bool (p v)) ∧ Kp No w' w'') :
    Calls Tryz.prog 85 #[.slice A n cap, .func (.func 40) #[bv] #[]] w fun e w' => ∃ i : Int, e = .returned (.int .i64 i) ∧ (decide (0 ≤ i) = vs.any p) ∧ Kp No w w' := by
  have HF := Lib.hid hf
  clear hf
  go_enter Tryz.func85, Tryz.ntmps85
  go_wp2_with fail
  go_loopw [8] (fun i wr => ∃ k : Nat, k ≤ n ∧ i = .int .i64 k ∧ (vs.take k).any p = false ∧ Kp No w wr) (fun i _ => n - (intOf i).toNat)
  case atStart => exact ⟨0, by omega, rfl, by simp, Kp.refl _ _⟩
  case round =>
    obtain ⟨k, hk, rfl, hno, hkp⟩ := hrel
    by_cases hlt : k < n
    · obtain ⟨v, hv⟩ : ∃ v, vs[k]? = some v := ⟨_, List.getElem?_eq_getElem (by rw [h.1]; exact hlt)⟩
      obtain ⟨b, o, rfl, hb, hc⟩ := h.2 k v hv
      have c0 := hkp.cell (hc 0 _ rfl) (fun h => h)
      have c1 := hkp.cell (hc 1 _ rfl) (fun h => h)
      simp only [Nat.add_zero] at c0
      have Ht := Lib.hid (any_take_succ p vs k v hv)
      have Hno := Lib.hid hno
      have Hv := Lib.hid hv
      have HC := Lib.hid (HF.out v _ hkp)
      have HK := Lib.hid hkp
      clear hno hv hc hkp
      cases hbad : p v
      · rw [hbad] at HC
        have HB := Lib.hid hbad
        clear hbad
        simp only [ep] at HC
        go_wp2_with (go_at_call 40; refine HC.out.mono ?_; rintro e w' ⟨rfl, hkp'⟩)
        go_roundw
        case rel => exact ⟨k + 1, by omega, by go_num, by rw [Ht.out, Hno.out, HB.out]; rfl, HK.out.tr hkp'⟩
        case measure => simp [intOf]; omega
      · rw [hbad] at HC
        have HB := Lib.hid hbad
        clear hbad
        simp only [ep] at HC
        go_wp2_with (go_at_call 40; refine HC.out.mono ?_; rintro e w' ⟨rfl, hkp'⟩)
        go_ret
        refine ⟨k, rfl, ?_, HK.out.tr hkp'⟩
        have : vs.any p = true := List.any_eq_true.2 ⟨v, List.mem_of_getElem? Hv.out, HB.out⟩
        rw [this]
        simp
    · have HK := Lib.hid hkp
      have Hno := Lib.hid hno
      clear hkp hno
      go_wp2
      go_ret
      refine ⟨-1, rfl, ?_, HK.out⟩
      have hno := Hno.out
      rw [List.take_of_length_le (by rw [h.1]; omega)] at hno
      rw [hno]
      rfl
theorem contains_pipe {bv : Value} (A : Option Addr) (n cap : Nat) (vs : List Pp) (p : Pp → Bool) (w : World) (h : Rd pcells 2 w A n vs) (hn : n ≤ 100000000) (hf : ∀ v w', Kp No w w' → Calls Tryz.prog 40 #[bv, ep v] w' fun e w'' => e = .returned (.bool (p v)) ∧ Kp No w' w'') :
    Calls Tryz.prog 39 #[.slice A n cap, .func (.func 40) #[bv] #[]] w fun e w' => e = .returned (.bool (vs.any p)) ∧ Kp No w w' := by
  have HI := Lib.hid (index_pipe A n cap vs p w h hn hf)
  clear hf
  go_enter Tryz.func39, Tryz.ntmps39
  go_wp2_with (go_at_call 85; refine HI.out.mono ?_; rintro e w' ⟨i, rfl, hi, hkp⟩)
  go_ret
  exact ⟨by first | rfl | exact ret_bool hi, hkp⟩
end Go.Proofs.YtlieijnhaolnhaaGreat
