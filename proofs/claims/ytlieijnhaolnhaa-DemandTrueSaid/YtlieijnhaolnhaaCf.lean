/- Chapter 13: slices.ContainsFunc at the chapter's elements. Printed by gen_cf.py. -/
import Derived.Test.YtlieijnhaolnhaaOrd
import Derived.Test.YtlieijnhaolnhaaSpf
namespace Go.Proofs.Ytlieijnhaolnhaa
open Go.RowKit Go.Kq

theorem any_take_succ {α : Type} (p : α → Bool) (l : List α) (k : Nat) (v : α) (h : l[k]? = some v) : (l.take (k + 1)).any p = ((l.take k).any p || p v) := by
  rw [List.take_add_one, h]
  simp
/-- A row: a pipe, its toe, its chest. -/
structure Rw where
  r : Int
  n : Int
  b : Int
  f : Int
  c : Int
def Rw.pp (x : Rw) : Pp := (x.r, x.n)
def rwV (x : Rw) : Value := .agg #[.int .i64 x.r, .int .i64 x.n, .int .i64 x.b, .int .i64 x.f, .int .i64 x.c]
def rwC (x : Rw) : List Value := [.int .i64 x.r, .int .i64 x.n, .int .i64 x.b, .int .i64 x.f, .int .i64 x.c]
def ivP (x : Int × Int) : Value := .agg #[.int .i64 x.1, .int .i64 x.2]
def ivC (x : Int × Int) : List Value := [.int .i64 x.1, .int .i64 x.2]
def i64V (x : Int) : Value := .int .i64 x
set_option maxHeartbeats 1000000 in
theorem index_iv (A : Option Addr) (n cap : Nat) (vs : List (Int × Int)) (p : (Int × Int) → Bool) (w : World) (h : Rd ivC 2 w A n vs) (hn : n ≤ 100000000) (hf : ∀ v w', Kp No w w' → Calls Try.prog 25 #[ivP v] w' fun e w'' => e = .returned (.bool (p v)) ∧ Kp No w' w'') :
    Calls Try.prog 44 #[.slice A n cap, .func (.func 25) #[] #[]] w fun e w' => ∃ i : Int, e = .returned (.int .i64 i) ∧ (decide (0 ≤ i) = vs.any p) ∧ Kp No w w' := by
  have HF := Lib.hid hf
  clear hf
  go_enter Try.func44, Try.ntmps44
  go_wp2_with fail
  go_loopw [8] (fun i wr => ∃ k : Nat, k ≤ n ∧ i = .int .i64 k ∧ (vs.take k).any p = false ∧ Kp No w wr) (fun i _ => n - (intOf i).toNat)
  case atStart => exact ⟨0, by omega, rfl, by simp, Kp.refl _ _⟩
  case round =>
    obtain ⟨k, hk, rfl, hno, hkp⟩ := hrel
    by_cases hlt : k < n
    · obtain ⟨v, hv⟩ : ∃ v, vs[k]? = some v := ⟨_, List.getElem?_eq_getElem (by rw [h.1]; exact hlt)⟩
      obtain ⟨b, o, rfl, hb, hc⟩ := h.2 k v hv
      have c0 := hkp.cell (hc 0 _ rfl) (fun h => h)
      have c1 := hkp.cell (hc 1 _ rfl) (fun h => h)
      simp only [Nat.add_zero] at c0
      have Ht := Lib.hid (any_take_succ p vs k v hv)
      have Hno := Lib.hid hno
      have Hv := Lib.hid hv
      have HC := Lib.hid (HF.out v _ hkp)
      have HK := Lib.hid hkp
      clear hno hv hc hkp
      cases hbad : p v
      · rw [hbad] at HC
        have HB := Lib.hid hbad
        clear hbad
        simp only [ivP] at HC
        go_wp2_with (go_at_call 25; refine HC.out.mono ?_; rintro e w' ⟨rfl, hkp'⟩)
        go_roundw
        case rel => exact ⟨k + 1, by omega, by go_num, by rw [Ht.out, Hno.out, HB.out]; rfl, HK.out.tr hkp'⟩
        case measure => simp [intOf]; omega
      · rw [hbad] at HC
        have HB := Lib.hid hbad
        clear hbad
        simp only [ivP] at HC
        go_wp2_with (go_at_call 25; refine HC.out.mono ?_; rintro e w' ⟨rfl, hkp'⟩)
        go_ret
        refine ⟨k, rfl, ?_, HK.out.tr hkp'⟩
        have : vs.any p = true := List.any_eq_true.2 ⟨v, List.mem_of_getElem? Hv.out, HB.out⟩
        rw [this]
        simp
    · have HK := Lib.hid hkp
      have Hno := Lib.hid hno
      clear hkp hno
      go_wp2
      go_ret
      refine ⟨-1, rfl, ?_, HK.out⟩
      have hno := Hno.out
      rw [List.take_of_length_le (by rw [h.1]; omega)] at hno
      rw [hno]
      rfl
theorem contains_iv (A : Option Addr) (n cap : Nat) (vs : List (Int × Int)) (p : (Int × Int) → Bool) (w : World) (h : Rd ivC 2 w A n vs) (hn : n ≤ 100000000) (hf : ∀ v w', Kp No w w' → Calls Try.prog 25 #[ivP v] w' fun e w'' => e = .returned (.bool (p v)) ∧ Kp No w' w'') :
    Calls Try.prog 24 #[.slice A n cap, .func (.func 25) #[] #[]] w fun e w' => e = .returned (.bool (vs.any p)) ∧ Kp No w w' := by
  have HI := Lib.hid (index_iv A n cap vs p w h hn hf)
  clear hf
  go_enter Try.func24, Try.ntmps24
  go_wp2_with (go_at_call 44; refine HI.out.mono ?_; rintro e w' ⟨i, rfl, hi, hkp⟩)
  go_ret
  exact ⟨by first | rfl | exact ret_bool hi, hkp⟩
set_option maxHeartbeats 1000000 in
theorem index_rowk (A : Option Addr) (n cap : Nat) (vs : List Rw) (p : Rw → Bool) (w : World) (h : Rd rwC 5 w A n vs) (hn : n ≤ 100000000) (hf : ∀ v w', Kp No w w' → Calls Try.prog 90 #[rwV v] w' fun e w'' => e = .returned (.bool (p v)) ∧ Kp No w' w'') :
    Calls Try.prog 92 #[.slice A n cap, .func (.func 90) #[] #[]] w fun e w' => ∃ i : Int, e = .returned (.int .i64 i) ∧ (decide (0 ≤ i) = vs.any p) ∧ Kp No w w' := by
  have HF := Lib.hid hf
  clear hf
  go_enter Try.func92, Try.ntmps92
  go_wp2_with fail
  go_loopw [8] (fun i wr => ∃ k : Nat, k ≤ n ∧ i = .int .i64 k ∧ (vs.take k).any p = false ∧ Kp No w wr) (fun i _ => n - (intOf i).toNat)
  case atStart => exact ⟨0, by omega, rfl, by simp, Kp.refl _ _⟩
  case round =>
    obtain ⟨k, hk, rfl, hno, hkp⟩ := hrel
    by_cases hlt : k < n
    · obtain ⟨v, hv⟩ : ∃ v, vs[k]? = some v := ⟨_, List.getElem?_eq_getElem (by rw [h.1]; exact hlt)⟩
      obtain ⟨b, o, rfl, hb, hc⟩ := h.2 k v hv
      have c0 := hkp.cell (hc 0 _ rfl) (fun h => h)
      have c1 := hkp.cell (hc 1 _ rfl) (fun h => h)
      have c2 := hkp.cell (hc 2 _ rfl) (fun h => h)
      have c3 := hkp.cell (hc 3 _ rfl) (fun h => h)
      have c4 := hkp.cell (hc 4 _ rfl) (fun h => h)
      simp only [Nat.add_zero] at c0
      have Ht := Lib.hid (any_take_succ p vs k v hv)
      have Hno := Lib.hid hno
      have Hv := Lib.hid hv
      have HC := Lib.hid (HF.out v _ hkp)
      have HK := Lib.hid hkp
      clear hno hv hc hkp
      cases hbad : p v
      · rw [hbad] at HC
        have HB := Lib.hid hbad
        clear hbad
        simp only [rwV] at HC
        go_wp2_with (go_at_call 90; refine HC.out.mono ?_; rintro e w' ⟨rfl, hkp'⟩)
        go_roundw
        case rel => exact ⟨k + 1, by omega, by go_num, by rw [Ht.out, Hno.out, HB.out]; rfl, HK.out.tr hkp'⟩
        case measure => simp [intOf]; omega
      · rw [hbad] at HC
        have HB := Lib.hid hbad
        clear hbad
        simp only [rwV] at HC
        go_wp2_with (go_at_call 90; refine HC.out.mono ?_; rintro e w' ⟨rfl, hkp'⟩)
        go_ret
        refine ⟨k, rfl, ?_, HK.out.tr hkp'⟩
        have : vs.any p = true := List.any_eq_true.2 ⟨v, List.mem_of_getElem? Hv.out, HB.out⟩
        rw [this]
        simp
    · have HK := Lib.hid hkp
      have Hno := Lib.hid hno
      clear hkp hno
      go_wp2
      go_ret
      refine ⟨-1, rfl, ?_, HK.out⟩
      have hno := Hno.out
      rw [List.take_of_length_le (by rw [h.1]; omega)] at hno
      rw [hno]
      rfl
theorem contains_rowk (A : Option Addr) (n cap : Nat) (vs : List Rw) (p : Rw → Bool) (w : World) (h : Rd rwC 5 w A n vs) (hn : n ≤ 100000000) (hf : ∀ v w', Kp No w w' → Calls Try.prog 90 #[rwV v] w' fun e w'' => e = .returned (.bool (p v)) ∧ Kp No w' w'') :
    Calls Try.prog 61 #[.slice A n cap, .func (.func 90) #[] #[]] w fun e w' => e = .returned (.bool (vs.any p)) ∧ Kp No w w' := by
  have HI := Lib.hid (index_rowk A n cap vs p w h hn hf)
  clear hf
  go_enter Try.func61, Try.ntmps61
  go_wp2_with (go_at_call 92; refine HI.out.mono ?_; rintro e w' ⟨i, rfl, hi, hkp⟩)
  go_ret
  exact ⟨by first | rfl | exact ret_bool hi, hkp⟩
set_option maxHeartbeats 1000000 in
theorem index_rowo {cv : Value} (A : Option Addr) (n cap : Nat) (vs : List Rw) (p : Rw → Bool) (w : World) (h : Rd rwC 5 w A n vs) (hn : n ≤ 100000000) (hf : ∀ v w', Kp No w w' → Calls Try.prog 62 #[rwV v, cv] w' fun e w'' => e = .returned (.bool (p v)) ∧ Kp No w' w'') :
    Calls Try.prog 92 #[.slice A n cap, .func (.func 62) #[] #[cv]] w fun e w' => ∃ i : Int, e = .returned (.int .i64 i) ∧ (decide (0 ≤ i) = vs.any p) ∧ Kp No w w' := by
  have HF := Lib.hid hf
  clear hf
  go_enter Try.func92, Try.ntmps92
  go_wp2_with fail
  go_loopw [8] (fun i wr => ∃ k : Nat, k ≤ n ∧ i = .int .i64 k ∧ (vs.take k).any p = false ∧ Kp No w wr) (fun i _ => n - (intOf i).toNat)
  case atStart => exact ⟨0, by omega, rfl, by simp, Kp.refl _ _⟩
  case round =>
    obtain ⟨k, hk, rfl, hno, hkp⟩ := hrel
    by_cases hlt : k < n
    · obtain ⟨v, hv⟩ : ∃ v, vs[k]? = some v := ⟨_, List.getElem?_eq_getElem (by rw [h.1]; exact hlt)⟩
      obtain ⟨b, o, rfl, hb, hc⟩ := h.2 k v hv
      have c0 := hkp.cell (hc 0 _ rfl) (fun h => h)
      have c1 := hkp.cell (hc 1 _ rfl) (fun h => h)
      have c2 := hkp.cell (hc 2 _ rfl) (fun h => h)
      have c3 := hkp.cell (hc 3 _ rfl) (fun h => h)
      have c4 := hkp.cell (hc 4 _ rfl) (fun h => h)
      simp only [Nat.add_zero] at c0
      have Ht := Lib.hid (any_take_succ p vs k v hv)
      have Hno := Lib.hid hno
      have Hv := Lib.hid hv
      have HC := Lib.hid (HF.out v _ hkp)
      have HK := Lib.hid hkp
      clear hno hv hc hkp
      cases hbad : p v
      · rw [hbad] at HC
        have HB := Lib.hid hbad
        clear hbad
        simp only [rwV] at HC
        go_wp2_with (go_at_call 62; refine HC.out.mono ?_; rintro e w' ⟨rfl, hkp'⟩)
        go_roundw
        case rel => exact ⟨k + 1, by omega, by go_num, by rw [Ht.out, Hno.out, HB.out]; rfl, HK.out.tr hkp'⟩
        case measure => simp [intOf]; omega
      · rw [hbad] at HC
        have HB := Lib.hid hbad
        clear hbad
        simp only [rwV] at HC
        go_wp2_with (go_at_call 62; refine HC.out.mono ?_; rintro e w' ⟨rfl, hkp'⟩)
        go_ret
        refine ⟨k, rfl, ?_, HK.out.tr hkp'⟩
        have : vs.any p = true := List.any_eq_true.2 ⟨v, List.mem_of_getElem? Hv.out, HB.out⟩
        rw [this]
        simp
    · have HK := Lib.hid hkp
      have Hno := Lib.hid hno
      clear hkp hno
      go_wp2
      go_ret
      refine ⟨-1, rfl, ?_, HK.out⟩
      have hno := Hno.out
      rw [List.take_of_length_le (by rw [h.1]; omega)] at hno
      rw [hno]
      rfl
theorem contains_rowo {cv : Value} (A : Option Addr) (n cap : Nat) (vs : List Rw) (p : Rw → Bool) (w : World) (h : Rd rwC 5 w A n vs) (hn : n ≤ 100000000) (hf : ∀ v w', Kp No w w' → Calls Try.prog 62 #[rwV v, cv] w' fun e w'' => e = .returned (.bool (p v)) ∧ Kp No w' w'') :
    Calls Try.prog 61 #[.slice A n cap, .func (.func 62) #[] #[cv]] w fun e w' => e = .returned (.bool (vs.any p)) ∧ Kp No w w' := by
  have HI := Lib.hid (index_rowo A n cap vs p w h hn hf)
  clear hf
  go_enter Try.func61, Try.ntmps61
  go_wp2_with (go_at_call 92; refine HI.out.mono ?_; rintro e w' ⟨i, rfl, hi, hkp⟩)
  go_ret
  exact ⟨by first | rfl | exact ret_bool hi, hkp⟩
set_option maxHeartbeats 1000000 in
theorem index_int (A : Option Addr) (n cap : Nat) (vs : List Int) (p : Int → Bool) (w : World) (h : RdI .i64 w A n vs) (hn : n ≤ 100000000) (hf : ∀ v w', Kp No w w' → Calls Try.prog 60 #[i64V v] w' fun e w'' => e = .returned (.bool (p v)) ∧ Kp No w' w'') :
    Calls Try.prog 91 #[.slice A n cap, .func (.func 60) #[] #[]] w fun e w' => ∃ i : Int, e = .returned (.int .i64 i) ∧ (decide (0 ≤ i) = vs.any p) ∧ Kp No w w' := by
  have HF := Lib.hid hf
  clear hf
  go_enter Try.func91, Try.ntmps91
  go_wp2_with fail
  go_loopw [8] (fun i wr => ∃ k : Nat, k ≤ n ∧ i = .int .i64 k ∧ (vs.take k).any p = false ∧ Kp No w wr) (fun i _ => n - (intOf i).toNat)
  case atStart => exact ⟨0, by omega, rfl, by simp, Kp.refl _ _⟩
  case round =>
    obtain ⟨k, hk, rfl, hno, hkp⟩ := hrel
    by_cases hlt : k < n
    · obtain ⟨v, hv⟩ : ∃ v, vs[k]? = some v := ⟨_, List.getElem?_eq_getElem (by rw [h.1]; exact hlt)⟩
      obtain ⟨b, o, rfl, hb, hc⟩ := h.2 k v hv
      have c0 := hkp.cell hc (fun h => h)
      have Ht := Lib.hid (any_take_succ p vs k v hv)
      have Hno := Lib.hid hno
      have Hv := Lib.hid hv
      have HC := Lib.hid (HF.out v _ hkp)
      have HK := Lib.hid hkp
      clear hno hv hc hkp
      cases hbad : p v
      · rw [hbad] at HC
        have HB := Lib.hid hbad
        clear hbad
        simp only [i64V] at HC
        go_wp2_with (go_at_call 60; refine HC.out.mono ?_; rintro e w' ⟨rfl, hkp'⟩)
        go_roundw
        case rel => exact ⟨k + 1, by omega, by go_num, by rw [Ht.out, Hno.out, HB.out]; rfl, HK.out.tr hkp'⟩
        case measure => simp [intOf]; omega
      · rw [hbad] at HC
        have HB := Lib.hid hbad
        clear hbad
        simp only [i64V] at HC
        go_wp2_with (go_at_call 60; refine HC.out.mono ?_; rintro e w' ⟨rfl, hkp'⟩)
        go_ret
        refine ⟨k, rfl, ?_, HK.out.tr hkp'⟩
        have : vs.any p = true := List.any_eq_true.2 ⟨v, List.mem_of_getElem? Hv.out, HB.out⟩
        rw [this]
        simp
    · have HK := Lib.hid hkp
      have Hno := Lib.hid hno
      clear hkp hno
      go_wp2
      go_ret
      refine ⟨-1, rfl, ?_, HK.out⟩
      have hno := Hno.out
      rw [List.take_of_length_le (by rw [h.1]; omega)] at hno
      rw [hno]
      rfl
theorem contains_int (A : Option Addr) (n cap : Nat) (vs : List Int) (p : Int → Bool) (w : World) (h : RdI .i64 w A n vs) (hn : n ≤ 100000000) (hf : ∀ v w', Kp No w w' → Calls Try.prog 60 #[i64V v] w' fun e w'' => e = .returned (.bool (p v)) ∧ Kp No w' w'') :
    Calls Try.prog 59 #[.slice A n cap, .func (.func 60) #[] #[]] w fun e w' => e = .returned (.bool (vs.any p)) ∧ Kp No w w' := by
  have HI := Lib.hid (index_int A n cap vs p w h hn hf)
  clear hf
  go_enter Try.func59, Try.ntmps59
  go_wp2_with (go_at_call 91; refine HI.out.mono ?_; rintro e w' ⟨i, rfl, hi, hkp⟩)
  go_ret
  exact ⟨by first | rfl | exact ret_bool hi, hkp⟩
set_option maxHeartbeats 1000000 in
theorem index_pipe {bv : Value} (A : Option Addr) (n cap : Nat) (vs : List Pp) (p : Pp → Bool) (w : World) (h : Rd pcells 2 w A n vs) (hn : n ≤ 100000000) (hf : ∀ v w', Kp No w w' → Calls Try.prog 41 #[bv, ep v] w' fun e w'' => e = .returned (.bool (p v)) ∧ Kp No w' w'') :
    Calls Try.prog 64 #[.slice A n cap, .func (.func 41) #[bv] #[]] w fun e w' => ∃ i : Int, e = .returned (.int .i64 i) ∧ (decide (0 ≤ i) = vs.any p) ∧ Kp No w w' := by
  have HF := Lib.hid hf
  clear hf
  go_enter Try.func64, Try.ntmps64
  go_wp2_with fail
  go_loopw [8] (fun i wr => ∃ k : Nat, k ≤ n ∧ i = .int .i64 k ∧ (vs.take k).any p = false ∧ Kp No w wr) (fun i _ => n - (intOf i).toNat)
  case atStart => exact ⟨0, by omega, rfl, by simp, Kp.refl _ _⟩
  case round =>
    obtain ⟨k, hk, rfl, hno, hkp⟩ := hrel
    by_cases hlt : k < n
    · obtain ⟨v, hv⟩ : ∃ v, vs[k]? = some v := ⟨_, List.getElem?_eq_getElem (by rw [h.1]; exact hlt)⟩
      obtain ⟨b, o, rfl, hb, hc⟩ := h.2 k v hv
      have c0 := hkp.cell (hc 0 _ rfl) (fun h => h)
      have c1 := hkp.cell (hc 1 _ rfl) (fun h => h)
      simp only [Nat.add_zero] at c0
      have Ht := Lib.hid (any_take_succ p vs k v hv)
      have Hno := Lib.hid hno
      have Hv := Lib.hid hv
      have HC := Lib.hid (HF.out v _ hkp)
      have HK := Lib.hid hkp
      clear hno hv hc hkp
      cases hbad : p v
      · rw [hbad] at HC
        have HB := Lib.hid hbad
        clear hbad
        simp only [ep] at HC
        go_wp2_with (go_at_call 41; refine HC.out.mono ?_; rintro e w' ⟨rfl, hkp'⟩)
        go_roundw
        case rel => exact ⟨k + 1, by omega, by go_num, by rw [Ht.out, Hno.out, HB.out]; rfl, HK.out.tr hkp'⟩
        case measure => simp [intOf]; omega
      · rw [hbad] at HC
        have HB := Lib.hid hbad
        clear hbad
        simp only [ep] at HC
        go_wp2_with (go_at_call 41; refine HC.out.mono ?_; rintro e w' ⟨rfl, hkp'⟩)
        go_ret
        refine ⟨k, rfl, ?_, HK.out.tr hkp'⟩
        have : vs.any p = true := List.any_eq_true.2 ⟨v, List.mem_of_getElem? Hv.out, HB.out⟩
        rw [this]
        simp
    · have HK := Lib.hid hkp
      have Hno := Lib.hid hno
      clear hkp hno
      go_wp2
      go_ret
      refine ⟨-1, rfl, ?_, HK.out⟩
      have hno := Hno.out
      rw [List.take_of_length_le (by rw [h.1]; omega)] at hno
      rw [hno]
      rfl
theorem contains_pipe {bv : Value} (A : Option Addr) (n cap : Nat) (vs : List Pp) (p : Pp → Bool) (w : World) (h : Rd pcells 2 w A n vs) (hn : n ≤ 100000000) (hf : ∀ v w', Kp No w w' → Calls Try.prog 41 #[bv, ep v] w' fun e w'' => e = .returned (.bool (p v)) ∧ Kp No w' w'') :
    Calls Try.prog 40 #[.slice A n cap, .func (.func 41) #[bv] #[]] w fun e w' => e = .returned (.bool (vs.any p)) ∧ Kp No w w' := by
  have HI := Lib.hid (index_pipe A n cap vs p w h hn hf)
  clear hf
  go_enter Try.func40, Try.ntmps40
  go_wp2_with (go_at_call 64; refine HI.out.mono ?_; rintro e w' ⟨i, rfl, hi, hkp⟩)
  go_ret
  exact ⟨by first | rfl | exact ret_bool hi, hkp⟩
end Go.Proofs.Ytlieijnhaolnhaa
