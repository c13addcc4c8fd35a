/- Chapter 15: wind systems in memory; small functions. · Chapter 15: slices.IndexFunc and ContainsFunc at the chapter's elements. Printed by gen_cf.py. · Chapter 15: the program's Check. -/
import Derived.BigQuiet
import Derived.Test.YtpkbpeeelpgmcaaGreatXWdQ
import Derived.Test.YtpkbpeeelpgmcaaGreatXNwSpl
import Derived.Test.YtpkbpeeelpgmcaaGreatXNwRckM
namespace Go.Proofs.YtpkbpeeelpgmcaaGreat
open Go.RowKit Go.Kq Go.Flow

/-- A stop as it lies: its chest, and where its takes lie. -/
structure Sv where
  ch : Int
  A : Option Addr
  n : Nat
  c : Nat
def Sv.cells (v : Sv) : List Value := [.int .i64 v.ch, .slice v.A v.n v.c]
def Sv.val (v : Sv) : Value := .agg #[.int .i64 v.ch, .slice v.A v.n v.c]
theorem Sv.cells_len (v : Sv) : v.cells.length = 2 := rfl
def SvIs (w : World) (v : Sv) (s : Sto) : Prop := v.ch = s.ch ∧ v.n = s.tk.length ∧ RdI .i64 w v.A v.n s.tk
theorem SvIs.no {w w' : World} {v : Sv} {s : Sto} (h : SvIs w v s) (k : Kp No w w') : SvIs w' v s := ⟨h.1, h.2.1, h.2.2.no k⟩
/-- The stops of a system, as they lie. -/
structure RdSt (w : World) (C : Option Addr) (n : Nat) (vs : List Sv) (l : List Sto) : Prop where
  rd : Rd Sv.cells 2 w C n vs
  len : l.length = n
  is : ∀ (i : Nat) (v : Sv) (s : Sto), vs[i]? = some v → l[i]? = some s → SvIs w v s
theorem RdSt.no {w w' : World} {C : Option Addr} {n : Nat} {vs : List Sv} {l : List Sto} (h : RdSt w C n vs l) (k : Kp No w w') : RdSt w' C n vs l := ⟨h.rd.no k, h.len, fun i v s hv hs => (h.is i v s hv hs).no k⟩
/-- A stop that is read. -/
theorem RdSt.at_ {w : World} {C : Option Addr} {n : Nat} {vs : List Sv} {l : List Sto} (h : RdSt w C n vs l) {i : Nat} {s : Sto} (hs : l[i]? = some s) :
    ∃ v b o, vs[i]? = some v ∧ C = some ⟨b, o, none⟩ ∧ b < w.heap.size ∧ w.cell? ⟨b, o + i * 2, none⟩ = some (.int .i64 v.ch) ∧ w.cell? ⟨b, o + i * 2 + 1, none⟩ = some (.slice v.A v.n v.c) ∧ SvIs w v s := by
  have hi := (List.getElem?_eq_some_iff.1 hs).1
  obtain ⟨v, hv⟩ : ∃ v, vs[i]? = some v := ⟨_, List.getElem?_eq_getElem (by rw [h.rd.1]; rw [h.len] at hi; exact hi)⟩
  obtain ⟨b, o, hC, hb, hc⟩ := h.rd.2 i v hv
  have x0 := hc 0 _ rfl
  rw [Nat.add_zero] at x0
  exact ⟨v, b, o, hv, hC, hb, x0, hc 1 _ rfl, h.is i v s hv hs⟩
theorem any_take_one {α : Type} (p : α → Bool) (l : List α) (k : Nat) (v : α) (h : l[k]? = some v) : (l.take (k + 1)).any p = ((l.take k).any p || p v) := by
  rw [List.take_add_one, h]
  simp
def firstI {α : Type} (p : α → Bool) : List α → Nat
  | [] => 0
  | a :: l => if p a then 0 else firstI p l + 1
theorem firstI_at {α : Type} {p : α → Bool} : ∀ {l : List α} {k : Nat} {v : α}, (l.take k).any p = false → l[k]? = some v → p v = true → firstI p l = k
  | [], _, _, _, h, _ => by simp at h
  | a :: l, 0, v, _, h, hp => by
    simp at h
    subst h
    simp [firstI, hp]
  | a :: l, k + 1, v, hn, h, hp => by
    simp only [List.take_succ_cons, List.any_cons, Bool.or_eq_false_iff] at hn
    simp only [firstI, hn.1]
    rw [firstI_at hn.2 (by simpa using h) hp]
    rfl
theorem firstI_none {α : Type} {p : α → Bool} : ∀ {l : List α}, l.any p = false → firstI p l = l.length
  | [], _ => rfl
  | a :: l, h => by
    simp only [List.any_cons, Bool.or_eq_false_iff] at h
    simp only [firstI, h.1, firstI_none h.2]
    rfl
theorem firstI_some {α : Type} {p : α → Bool} : ∀ {l : List α}, l.any p = true → firstI p l < l.length
  | [], h => by simp at h
  | a :: l, h => by
    simp only [firstI]
    cases ha : p a
    · have := firstI_some (p := p) (l := l) (by simpa [ha] using h)
      simp
      omega
    · simp
def ixI {α : Type} (p : α → Bool) (l : List α) : Int := if firstI p l < l.length then (firstI p l : Nat) else -1
theorem ixI_at {α : Type} {p : α → Bool} {l : List α} {k : Nat} {v : α} (h : (l.take k).any p = false) (hv : l[k]? = some v) (hp : p v = true) : ixI p l = (k : Nat) := by
  have := firstI_at h hv hp
  unfold ixI
  rw [this, if_pos (List.getElem?_eq_some_iff.1 hv).1]
theorem ixI_none {α : Type} {p : α → Bool} {l : List α} (h : l.any p = false) : ixI p l = -1 := by
  unfold ixI
  rw [firstI_none h, if_neg (by omega)]
theorem ixI_any {α : Type} (p : α → Bool) (l : List α) : decide (0 ≤ ixI p l) = l.any p := by
  unfold ixI
  cases h : l.any p
  · rw [firstI_none h, if_neg (by omega)]
    rfl
  · rw [if_pos (firstI_some h), decide_eq_true_eq]
    omega
def i64V (x : Int) : Value := .int .i64 x
def manyB (v : Sv) : Bool := decide (8 < v.n)
theorem many_any (v : Sv) (w : World) : Calls Tryz.prog 33 #[v.val] w fun e w' => e = .returned (.bool (manyB v)) ∧ Kp No w w' := by
  obtain ⟨ch, A, n, c⟩ := v
  unfold Sv.val manyB
  dsimp only
  by_cases h : 8 < n
  · have d1 : decide (8 < n) = true := by simp [h]
    go_enter Tryz.func33, Tryz.ntmps33
    go_wp2_with fail
    go_ret
    exact ⟨ret_bool (by simp; omega), Kp.alloc _ _ _⟩
  · have d1 : decide (8 < n) = false := by simp [h]
    go_enter Tryz.func33, Tryz.ntmps33
    go_wp2_with fail
    go_ret
    exact ⟨ret_bool (by simp; omega), Kp.alloc _ _ _⟩
theorem take_bad (x : Int) (w : World) : Calls Tryz.prog 35 #[i64V x] w fun e w' => e = .returned (.bool (badX x)) ∧ Kp No w w' := by
  unfold i64V badX
  by_cases h1 : x < 0
  · have d1 : decide (x < 0) = true := by simp [h1]
    go_enter Tryz.func35, Tryz.ntmps35
    go_wp2
    go_ret
    exact ⟨ret_bool (by simp [h1]), Kp.refl _ _⟩
  · by_cases h2 : 1000000000 < x
    · go_enter Tryz.func35, Tryz.ntmps35
      go_wp2
      go_ret
      exact ⟨ret_bool (by simp), Kp.refl _ _⟩
    · go_enter Tryz.func35, Tryz.ntmps35
      go_wp2
      go_ret
      exact ⟨ret_bool (by simp [h1, h2]), Kp.refl _ _⟩
end Go.Proofs.YtpkbpeeelpgmcaaGreat

namespace Go.Proofs.YtpkbpeeelpgmcaaGreat
open Go.RowKit Go.Kq

set_option maxHeartbeats 1000000 in
theorem index_stops (A : Option Addr) (n cap : Nat) (vs : List Sv) (p : Sv → Bool) (w : World) (h : Rd Sv.cells 2 w A n vs) (hn : n ≤ 100000000) (hf : ∀ v w', Kp No w w' → Calls Tryz.prog 33 #[Sv.val v] w' fun e w'' => e = .returned (.bool (p v)) ∧ Kp No w' w'') :
    Calls Tryz.prog 62 #[.slice A n cap, .func (.func 33) #[] #[]] w fun e w' => e = .returned (.int .i64 (ixI p vs)) ∧ Kp No w w' := by
  have HF := Lib.hid hf
  clear hf
  go_enter Tryz.func62, Tryz.ntmps62
  go_wp2_with fail
  go_loopw [8] (fun i wr => ∃ k : Nat, k ≤ n ∧ i = .int .i64 k ∧ (vs.take k).any p = false ∧ Kp No w wr) (fun i _ => n - (intOf i).toNat)
  case atStart => exact ⟨0, by omega, rfl, by simp, Kp.refl _ _⟩
  case round =>
    obtain ⟨k, hk, rfl, hno, hkp⟩ := hrel
    by_cases hlt : k < n
    · obtain ⟨v, hv⟩ : ∃ v, vs[k]? = some v := ⟨_, List.getElem?_eq_getElem (by rw [h.1]; exact hlt)⟩
      obtain ⟨b, o, rfl, hb, hc⟩ := h.2 k v hv
      have c0 := hkp.cell (hc 0 _ rfl) (fun h => h)
      have c1 := hkp.cell (hc 1 _ rfl) (fun h => h)
      simp only [Nat.add_zero] at c0
      have Ht := Lib.hid (any_take_one p vs k v hv)
      have Hno := Lib.hid hno
      have Hv := Lib.hid hv
      have HC := Lib.hid (HF.out v _ hkp)
      have HK := Lib.hid hkp
      clear hno hv hc hkp
      cases hbad : p v
      · rw [hbad] at HC
        have HB := Lib.hid hbad
        clear hbad
        simp only [Sv.val] at HC
        go_wp2_with (go_at_call 33; refine HC.out.mono ?_; rintro e w' ⟨rfl, hkp'⟩)
        go_roundw
        case rel => exact ⟨k + 1, by omega, by go_num, by rw [Ht.out, Hno.out, HB.out]; rfl, HK.out.tr hkp'⟩
        case measure => simp [intOf]; omega
      · rw [hbad] at HC
        have HB := Lib.hid hbad
        clear hbad
        simp only [Sv.val] at HC
        go_wp2_with (go_at_call 33; refine HC.out.mono ?_; rintro e w' ⟨rfl, hkp'⟩)
        go_ret
        exact ⟨by rw [ixI_at Hno.out Hv.out HB.out]; rfl, HK.out.tr hkp'⟩
    · have HK := Lib.hid hkp
      have Hno := Lib.hid hno
      clear hkp hno
      go_wp2
      go_ret
      refine ⟨?_, HK.out⟩
      have hno := Hno.out
      rw [List.take_of_length_le (by rw [h.1]; omega)] at hno
      rw [ixI_none hno]
      rfl
set_option maxHeartbeats 1000000 in
theorem contains_stops (A : Option Addr) (n cap : Nat) (vs : List Sv) (p : Sv → Bool) (w : World) (h : Rd Sv.cells 2 w A n vs) (hn : n ≤ 100000000) (hf : ∀ v w', Kp No w w' → Calls Tryz.prog 33 #[Sv.val v] w' fun e w'' => e = .returned (.bool (p v)) ∧ Kp No w' w'') :
    Calls Tryz.prog 32 #[.slice A n cap, .func (.func 33) #[] #[]] w fun e w' => e = .returned (.bool (vs.any p)) ∧ Kp No w w' := by
  have HI := Lib.hid (index_stops A n cap vs p w h hn hf)
  have HA := Lib.hid (ixI_any p vs)
  clear hf
  generalize ixI p vs = i at HI HA
  go_enter Tryz.func32, Tryz.ntmps32
  go_wp2_with (go_at_call 62; refine HI.out.mono ?_; rintro e w' ⟨rfl, hkp⟩)
  go_ret
  exact ⟨by first | rfl | exact ret_bool HA.out, hkp⟩
set_option maxHeartbeats 1000000 in
theorem index_takes (A : Option Addr) (n cap : Nat) (vs : List Int) (p : Int → Bool) (w : World) (h : RdI .i64 w A n vs) (hn : n ≤ 100000000) (hf : ∀ v w', Kp No w w' → Calls Tryz.prog 35 #[i64V v] w' fun e w'' => e = .returned (.bool (p v)) ∧ Kp No w' w'') :
    Calls Tryz.prog 63 #[.slice A n cap, .func (.func 35) #[] #[]] w fun e w' => e = .returned (.int .i64 (ixI p vs)) ∧ Kp No w w' := by
  have HF := Lib.hid hf
  clear hf
  go_enter Tryz.func63, Tryz.ntmps63
  go_wp2_with fail
  go_loopw [8] (fun i wr => ∃ k : Nat, k ≤ n ∧ i = .int .i64 k ∧ (vs.take k).any p = false ∧ Kp No w wr) (fun i _ => n - (intOf i).toNat)
  case atStart => exact ⟨0, by omega, rfl, by simp, Kp.refl _ _⟩
  case round =>
    obtain ⟨k, hk, rfl, hno, hkp⟩ := hrel
    by_cases hlt : k < n
    · obtain ⟨v, hv⟩ : ∃ v, vs[k]? = some v := ⟨_, List.getElem?_eq_getElem (by rw [h.1]; exact hlt)⟩
      obtain ⟨b, o, rfl, hb, hc⟩ := h.2 k v hv
      have c0 := hkp.cell hc (fun h => h)
      have Ht := Lib.hid (any_take_one p vs k v hv)
      have Hno := Lib.hid hno
      have Hv := Lib.hid hv
      have HC := Lib.hid (HF.out v _ hkp)
      have HK := Lib.hid hkp
      clear hno hv hc hkp
      cases hbad : p v
      · rw [hbad] at HC
        have HB := Lib.hid hbad
        clear hbad
        simp only [i64V] at HC
        go_wp2_with (go_at_call 35; refine HC.out.mono ?_; rintro e w' ⟨rfl, hkp'⟩)
        go_roundw
        case rel => exact ⟨k + 1, by omega, by go_num, by rw [Ht.out, Hno.out, HB.out]; rfl, HK.out.tr hkp'⟩
        case measure => simp [intOf]; omega
      · rw [hbad] at HC
        have HB := Lib.hid hbad
        clear hbad
        simp only [i64V] at HC
        go_wp2_with (go_at_call 35; refine HC.out.mono ?_; rintro e w' ⟨rfl, hkp'⟩)
        go_ret
        exact ⟨by rw [ixI_at Hno.out Hv.out HB.out]; rfl, HK.out.tr hkp'⟩
    · have HK := Lib.hid hkp
      have Hno := Lib.hid hno
      clear hkp hno
      go_wp2
      go_ret
      refine ⟨?_, HK.out⟩
      have hno := Hno.out
      rw [List.take_of_length_le (by rw [h.1]; omega)] at hno
      rw [ixI_none hno]
      rfl
set_option maxHeartbeats 1000000 in
theorem contains_takes (A : Option Addr) (n cap : Nat) (vs : List Int) (p : Int → Bool) (w : World) (h : RdI .i64 w A n vs) (hn : n ≤ 100000000) (hf : ∀ v w', Kp No w w' → Calls Tryz.prog 35 #[i64V v] w' fun e w'' => e = .returned (.bool (p v)) ∧ Kp No w' w'') :
    Calls Tryz.prog 34 #[.slice A n cap, .func (.func 35) #[] #[]] w fun e w' => e = .returned (.bool (vs.any p)) ∧ Kp No w w' := by
  have HI := Lib.hid (index_takes A n cap vs p w h hn hf)
  have HA := Lib.hid (ixI_any p vs)
  clear hf
  generalize ixI p vs = i at HI HA
  go_enter Tryz.func34, Tryz.ntmps34
  go_wp2_with (go_at_call 63; refine HI.out.mono ?_; rintro e w' ⟨rfl, hkp⟩)
  go_ret
  exact ⟨by first | rfl | exact ret_bool HA.out, hkp⟩
end Go.Proofs.YtpkbpeeelpgmcaaGreat

namespace Go.Proofs.YtpkbpeeelpgmcaaGreat
open Go.RowKit Go.Kq Go.Flow

/-- A system as a value. -/
def windV (Z : Nz) (A B C : Option Addr) (ca cb n cc : Nat) : Value := .agg #[.int .i64 Z.n, .slice A Z.tr.length ca, .slice B Z.ch.length cb, .slice C n cc]
theorem four_at {w : World} {g : Nat} {a b c d : Value} {t : TypeId} (h : w.heap[g]? = some (.cells #[a, b, c, d] t (0, 0))) : w.cell? ⟨g, 0, none⟩ = some a ∧ w.cell? ⟨g, 1, none⟩ = some b ∧ w.cell? ⟨g, 2, none⟩ = some c ∧ w.cell? ⟨g, 3, none⟩ = some d := by
  refine ⟨?_, ?_, ?_, ?_⟩ <;> (rw [cell_of_row _ _ _ _ _ _ h]; rfl)
/-- The code of a system. -/
def ChkW (Z : Nz) (l : List Sto) (c : Int) : Prop := (ChkIs Z c ∧ c ≠ 0) ∨ (ChkIs Z 0 ∧ c = stE Z.ch.length l)
theorem ChkW.uniq {Z : Nz} {l : List Sto} {c d : Int} (h : ChkW Z l c) (k : ChkW Z l d) : c = d := by
  rcases h with ⟨h1, h2⟩ | ⟨h1, h2⟩ <;> rcases k with ⟨k1, k2⟩ | ⟨k1, k2⟩
  · exact h1.uniq k1
  · exact absurd (h1.uniq k1) h2
  · exact absurd (k1.uniq h1) k2
  · rw [h2, k2]
theorem chk_bad {Z : Nz} {l : List Sto} {c : Int} (h : ChkIs Z c) (hz : c ≠ 0) : ChkW Z l c := .inl ⟨h, hz⟩
theorem st_many {w : World} {C : Option Addr} {n : Nat} {vs : List Sv} {l : List Sto} (h : RdSt w C n vs l) : vs.any manyB = l.any (fun s => decide (8 < s.tk.length)) := by
  have hl := h.rd.1
  have hl2 := h.len
  rw [Bool.eq_iff_iff, List.any_eq_true, List.any_eq_true]
  constructor
  · rintro ⟨v, hv, hp⟩
    obtain ⟨i, hi⟩ := List.mem_iff_getElem?.1 hv
    have hlt := (List.getElem?_eq_some_iff.1 hi).1
    obtain ⟨s, hs⟩ : ∃ s, l[i]? = some s := ⟨_, List.getElem?_eq_getElem (by omega)⟩
    have := h.is i v s hi hs
    refine ⟨s, List.mem_of_getElem? hs, ?_⟩
    rw [← this.2.1]
    exact hp
  · rintro ⟨s, hs, hp⟩
    obtain ⟨i, hi⟩ := List.mem_iff_getElem?.1 hs
    have hlt := (List.getElem?_eq_some_iff.1 hi).1
    obtain ⟨v, hv⟩ : ∃ v, vs[i]? = some v := ⟨_, List.getElem?_eq_getElem (by omega)⟩
    have := h.is i v s hv hi
    refine ⟨v, List.mem_of_getElem? hv, ?_⟩
    unfold manyB
    rw [this.2.1]
    exact hp
theorem not_many {l : List Sto} (h : l.any (fun s => decide (8 < s.tk.length)) = false) {s : Sto} (hs : s ∈ l) : s.tk.length ≤ 8 := by
  have := List.any_eq_false.1 h s hs
  simp only [decide_eq_true_eq] at this
  omega
set_option maxHeartbeats 8000000 in
set_option maxRecDepth 100000 in
theorem Wcheck_any (Z : Nz) (l : List Sto) (vs : List Sv) (A B C : Option Addr) (ca cb n cc : Nat) (w : World) (hR : RdNz w A B Z) (hS : RdSt w C n vs l) :
    Calls Tryz.prog 13 #[windV Z A B C ca cb n cc] w fun e w' => ∃ c, e = .returned (.int .i64 c) ∧ ChkW Z l c ∧ Kp No w w' := by
  unfold windV
  obtain ⟨g, hg⟩ : ∃ g, g = w.heap.size := ⟨_, rfl⟩
  obtain ⟨w0, hw0⟩ : ∃ w0, w.alloc (.cells #[.int .i64 Z.n, .slice A Z.tr.length ca, .slice B Z.ch.length cb, .slice C n cc] 28) = w0 := ⟨_, rfl⟩
  have hk0 : Kp No w w0 := by rw [← hw0]; exact Kp.alloc _ _ _
  have HBX := Lib.hid (show w0.heap[g]? = some (.cells #[.int .i64 Z.n, .slice A Z.tr.length ca, .slice B Z.ch.length cb, .slice C n cc] 28 (0, 0)) by rw [← hw0, hg]; exact heap_alloc_new w _)
  have HK := Lib.hid hk0
  have HS := Lib.hid (hS.no hk0)
  have HL := Lib.hid hS.len
  have HM := Lib.hid (st_many hS)
  have CK := Check_any Z A B ca cb w0 (hR.no hk0)
  unfold netZ at CK
  replace CK := Lib.hid CK
  clear hk0 hR hS
  obtain ⟨p0, p1, p2, p3⟩ := four_at HBX.out
  subst hg
  go_enter Tryz.func13, Tryz.ntmps13
  go_wp2_with fail
  with_reducible refine CK.out.mono ?_
  rintro e w1 ⟨c0, rfl, hc0, k1⟩
  have K1 := Lib.hid (HK.out.tr k1)
  have S1 := Lib.hid (HS.out.no k1)
  have B1 := Lib.hid (k1.heap HBX.out id)
  have HC := Lib.hid hc0
  clear k1 CK p0 p1 p2 p3 hc0
  obtain ⟨p0, p1, p2, p3⟩ := four_at B1.out
  by_cases hc : c0 = 0
  rotate_left
  · have d1 : (c0 != 0) = true := by rw [bne_iff_ne]; exact hc
    go_wp2_with fail
    go_ret
    exact ⟨c0, rfl, chk_bad HC.out hc, K1.out⟩
  subst hc
  have HE := Lib.hid (show stE Z.ch.length l = if 8 < n then 3 else if l.any (fun s => decide (8 < s.tk.length)) then 3 else if n = 0 then 2 else if keysN l = 0 then 2 else if l.any (stoBad Z.ch.length (keysN l)) then 2 else 0 by rw [← HL.out]; rfl)
  have OK := Lib.hid (fun c (h : stE Z.ch.length l = c) => show ChkW Z l c from .inr ⟨HC.out, h.symm⟩)
  by_cases h8 : 8 < n
  · have HEE := Lib.hid (show stE Z.ch.length l = 3 by rw [HE.out, if_pos h8])
    go_wp2_with fail
    go_ret
    exact ⟨3, rfl, OK.out _ HEE.out, K1.out⟩
  have CM := Lib.hid (contains_stops C n cc vs manyB w1 S1.out.rd (by omega) (fun v w' _ => many_any v w'))
  rw [HM.out] at CM
  have d8 : decide ((8 : Int) < (n : Int)) = false := by simp; omega
  have HN8 := Lib.hid h8
  have hn8 : n ≤ 8 := by omega
  clear h8
  cases hm : l.any (fun s => decide (8 < s.tk.length))
  rotate_left
  · have HEE := Lib.hid (show stE Z.ch.length l = 3 by rw [HE.out, if_neg HN8.out, if_pos hm])
    rw [hm] at CM
    clear hm
    go_wp2_with fail
    with_reducible refine CM.out.mono ?_
    rintro e w2 ⟨rfl, k2⟩
    go_wp2_with fail
    go_ret
    exact ⟨3, rfl, OK.out _ HEE.out, K1.out.tr k2⟩
  rw [hm] at CM
  have HNM := Lib.hid (fun s hs => not_many hm (s := s) hs)
  have HE2 := Lib.hid (show stE Z.ch.length l = if n = 0 then 2 else if keysN l = 0 then 2 else if l.any (stoBad Z.ch.length (keysN l)) then 2 else 0 by rw [HE.out, if_neg HN8.out, if_neg (by rw [hm]; decide)])
  clear hm HE
  go_wp2_with fail
  with_reducible refine CM.out.mono ?_
  rintro e w2 ⟨rfl, k2⟩
  have K2 := Lib.hid (K1.out.tr k2)
  have S2 := Lib.hid (S1.out.no k2)
  have B2 := Lib.hid (k2.heap B1.out id)
  clear k2 CM p0 p1 p2 p3
  obtain ⟨p0, p1, p2, p3⟩ := four_at B2.out
  by_cases h0 : n = 0
  · have HEE := Lib.hid (show stE Z.ch.length l = 2 by rw [HE2.out, if_pos h0])
    have d1 : ((n : Int) == 0) = true := by simp [h0]
    have hn0 : n ≤ 0 := by omega
    clear h0
    go_wp2_with fail
    go_ret
    exact ⟨2, rfl, OK.out _ HEE.out, K2.out⟩
  have HE3 := Lib.hid (show stE Z.ch.length l = if keysN l = 0 then 2 else if l.any (stoBad Z.ch.length (keysN l)) then 2 else 0 by rw [HE2.out, if_neg h0])
  have d0 : ((n : Int) == 0) = false := by simp [h0]
  obtain ⟨s0, hs0⟩ : ∃ s, l[0]? = some s := ⟨_, List.getElem?_eq_getElem (by rw [HL.out]; omega)⟩
  obtain ⟨v0, b, o, hv0, rfl, hb, x0, x1, is0⟩ := S2.out.at_ hs0
  have HK0 := Lib.hid (show keysN l = v0.n by unfold keysN; rw [List.getD_eq_getElem?_getD, hs0]; exact is0.2.1.symm)
  rw [Nat.zero_mul, Nat.add_zero] at x0 x1
  obtain ⟨ch0, A0, K, c0⟩ := v0
  dsimp only at x0 x1 HK0
  rw [HK0.out] at HE3
  have HK8 := Lib.hid (show K ≤ 8 by have := HNM.out s0 (List.mem_of_getElem? hs0); have h2 := is0.2.1; dsimp only at h2; omega)
  have hn0 : 0 < n := by omega
  clear h0 HE2 is0 hs0 hv0
  by_cases hk0 : K = 0
  · have HEE := Lib.hid (show stE Z.ch.length l = 2 by rw [HE3.out, if_pos hk0])
    have d1 : ((K : Int) == 0) = true := by simp [hk0]
    have hK0 : K ≤ 0 := by omega
    clear hk0
    go_wp2_with fail
    go_ret
    exact ⟨2, rfl, OK.out _ HEE.out, K2.out⟩
  have HE4 := Lib.hid (show stE Z.ch.length l = if l.any (stoBad Z.ch.length K) then 2 else 0 by rw [HE3.out, if_neg hk0])
  have d1 : ((K : Int) == 0) = false := by simp [hk0]
  have HBD := Lib.hid (show (∃ s ∈ l, stoBad Z.ch.length K s = true) → stE Z.ch.length l = 2 from fun ⟨s, hs, h⟩ => by rw [HE4.out, if_pos (List.any_eq_true.2 ⟨s, hs, h⟩)])
  clear hk0 HE3
  go_wp2_with fail
  go_loopw [37] (fun i wr => ∃ k : Nat, k ≤ n ∧ i = .int .i64 (k : Nat) ∧ (l.take k).any (stoBad Z.ch.length K) = false ∧ Kp No w2 wr) (fun i _ => n - (intOf i).toNat)
  case atStart => exact ⟨0, by omega, rfl, rfl, Kp.refl _ _⟩
  case round =>
    obtain ⟨k, hk, rfl, hno, hkp⟩ := hrel
    have HN := Lib.hid hno
    have HKP := Lib.hid hkp
    have B3 := Lib.hid (hkp.heap B2.out id)
    obtain ⟨p0, p1, p2, p3⟩ := four_at B3.out
    have y0 := hkp.cell x0 id
    have y1 := hkp.cell x1 id
    have hsz := hkp.size
    clear hno x0 x1
    by_cases hlt : k < n
    · obtain ⟨s, hs⟩ : ∃ s, l[k]? = some s := ⟨_, List.getElem?_eq_getElem (by rw [HL.out]; exact hlt)⟩
      obtain ⟨v, b', o', hv, hbo, hb', x0, x1, is⟩ := (S2.out.no hkp).at_ hs
      injection hbo with hbo
      injection hbo with e1 e2
      subst e1 e2
      have HT := Lib.hid (any_take_one (stoBad Z.ch.length K) l k s hs)
      have HM := Lib.hid (List.mem_of_getElem? hs)
      have HST := Lib.hid (show stoBad Z.ch.length K s = (decide (v.ch < 0) || decide ((Z.ch.length : Int) ≤ v.ch) || decide (v.n ≠ K) || s.tk.any badX) by unfold stoBad; rw [is.1, is.2.1])
      have HIS := Lib.hid is.2.2
      obtain ⟨ch, A1, m, c1⟩ := v
      dsimp only at x0 x1 HST HIS
      obtain ⟨gb, hgb⟩ : ∃ gb, gb = wr.heap.size := ⟨_, rfl⟩
      obtain ⟨w3, hw3⟩ : ∃ w3, wr.alloc (.cells #[.int .i64 ch, .slice A1 m c1] 45) = w3 := ⟨_, rfl⟩
      have hk3 : Kp No wr w3 := by rw [← hw3]; exact Kp.alloc _ _ _
      have hb3 : w3.heap[gb]? = some (.cells #[.int .i64 ch, .slice A1 m c1] 45 (0, 0)) := by rw [← hw3, hgb]; exact heap_alloc_new wr _
      obtain ⟨q0, q1, _, _⟩ := cell_head hb3
      have B4 := Lib.hid (hk3.heap B3.out id)
      clear p0 p1 p2 p3
      obtain ⟨p0, p1, p2, p3⟩ := four_at B4.out
      have z0 := hk3.cell y0 id
      have z1 := hk3.cell y1 id
      have HK3 := Lib.hid (hkp.tr hk3)
      have HIS3 := Lib.hid (HIS.out.no hk3)
      clear hs hv is hkp hk3 hb3
      have K23 := Lib.hid (K2.out.tr HK3.out)
      subst hgb
      by_cases h1 : ch < 0
      · have HEE := Lib.hid (HBD.out ⟨s, HM.out, by rw [HST.out]; simp [h1]⟩)
        go_wp2_with fail
        go_quiet (fail)
        go_wp2_with fail
        go_ret
        exact ⟨2, rfl, OK.out _ HEE.out, K23.out.tr (Kp.drewN _ _ _)⟩
      · by_cases h2 : (Z.ch.length : Int) ≤ ch
        · have HEE := Lib.hid (HBD.out ⟨s, HM.out, by rw [HST.out]; simp [h2]⟩)
          have d1 : decide (ch < 0) = false := by simp; omega
          have d2 : decide ((Z.ch.length : Int) ≤ ch) = true := by simp [h2]
          clear h1 h2
          go_wp2_with fail
          go_quiet (fail)
          go_wp2_with fail
          go_ret
          exact ⟨2, rfl, OK.out _ HEE.out, K23.out.tr (Kp.drewN _ _ _)⟩
        · by_cases h3 : m = K
          rotate_left
          · have HEE := Lib.hid (HBD.out ⟨s, HM.out, by rw [HST.out]; simp [h3]⟩)
            have d3 : ((m : Int) != (K : Int)) = true := by simp; omega
            have d1 : decide (ch < 0) = false := by simp; omega
            have d2 : decide ((Z.ch.length : Int) ≤ ch) = false := by simp; omega
            clear h1 h2 h3
            go_wp2_with fail
            go_quiet (fail)
            go_wp2_with fail
            go_ret
            exact ⟨2, rfl, OK.out _ HEE.out, K23.out.tr (Kp.drewN _ _ _)⟩
          · subst h3
            have d3 : ((m : Int) != (m : Int)) = false := by simp
            have CT := Lib.hid (fun W (k : Kp No w3 W) => contains_takes A1 m c1 s.tk badX W (HIS3.out.no k) (by have := HK8.out; omega) (fun v w' _ => take_bad v w'))
            cases h4 : s.tk.any badX
            · have HF := Lib.hid (show stoBad Z.ch.length m s = false by rw [HST.out, h4]; simp; omega)
              rw [h4] at CT
              have d1 : decide (ch < 0) = false := by simp; omega
              have d2 : decide ((Z.ch.length : Int) ≤ ch) = false := by simp; omega
              clear h1 h2 h4
              go_wp2_with fail
              go_quiet (fail)
              have q2 := Kp.drewN No w3 nq
              have q1 := q2.cell q1 id
              have HKQ := Lib.hid q2
              clear q2
              go_wp2_with fail
              with_reducible refine (CT.out _ HKQ.out).mono ?_
              rintro e w5 ⟨rfl, k5⟩
              go_wp2_with fail
              go_roundw
              case rel => exact ⟨k + 1, by omega, by go_num, by rw [HT.out, HN.out, HF.out]; rfl, HK3.out.tr (HKQ.out.tr k5)⟩
              case measure => simp [intOf]; omega
            · have HEE := Lib.hid (HBD.out ⟨s, HM.out, by rw [HST.out, h4]; simp⟩)
              rw [h4] at CT
              have d1 : decide (ch < 0) = false := by simp; omega
              have d2 : decide ((Z.ch.length : Int) ≤ ch) = false := by simp; omega
              clear h1 h2 h4
              go_wp2_with fail
              go_quiet (fail)
              have q2 := Kp.drewN No w3 nq
              have q1 := q2.cell q1 id
              have HKQ := Lib.hid q2
              clear q2
              go_wp2_with fail
              with_reducible refine (CT.out _ HKQ.out).mono ?_
              rintro e w5 ⟨rfl, k5⟩
              go_wp2_with fail
              go_ret
              exact ⟨2, rfl, OK.out _ HEE.out, K23.out.tr (HKQ.out.tr k5)⟩
    · obtain rfl : k = n := by omega
      have HEE := Lib.hid (show stE Z.ch.length l = 0 by
        have h := HN.out
        rw [List.take_of_length_le (by rw [HL.out]; exact Nat.le_refl _)] at h
        rw [HE4.out, h]
        rfl)
      go_wp2_with fail
      go_ret
      exact ⟨0, rfl, OK.out _ HEE.out, K2.out.tr HKP.out⟩
end Go.Proofs.YtpkbpeeelpgmcaaGreat
