/- Chapter 13: slices.ContainsFunc over keys, and the closures of Keys. Printed by gen_kyc.py. · Chapter 13: the program's Keys: the walk. -/
import Derived.Test.YtlieijnhaolnhaaGreatXKypM
namespace Go.Proofs.YtlieijnhaolnhaaGreat
open Go.RowKit Go.Kq

def kyV (k : Ky) : Value := .slice k.A k.n k.c
set_option maxHeartbeats 1000000 in
theorem index_kya (A : Option Addr) (n cap : Nat) (vs : List Ky) (p : Ky → Bool) (w : World) (h : Rd kyC 1 w A n vs) (hn : n ≤ 100000000) (hf : ∀ v ∈ vs, ∀ w', Kp No w w' → Calls Tryz.prog 62 #[kyV v] w' fun e w'' => e = .returned (.bool (p v)) ∧ Kp No w' w'') :
    Calls Tryz.prog 98 #[.slice A n cap, .func (.func 62) #[] #[]] w fun e w' => ∃ i : Int, e = .returned (.int .i64 i) ∧ (decide (0 ≤ i) = vs.any p) ∧ Kp No w w' := by
  have HF := Lib.hid hf
  clear hf
  go_enter Tryz.func98, Tryz.ntmps98
  go_wp2_with fail
  go_loopw [8] (fun i wr => ∃ k : Nat, k ≤ n ∧ i = .int .i64 k ∧ (vs.take k).any p = false ∧ Kp No w wr) (fun i _ => n - (intOf i).toNat)
  case atStart => exact ⟨0, by omega, rfl, by simp, Kp.refl _ _⟩
  case round =>
    obtain ⟨k, hk, rfl, hno, hkp⟩ := hrel
    by_cases hlt : k < n
    · obtain ⟨v, hv⟩ : ∃ v, vs[k]? = some v := ⟨_, List.getElem?_eq_getElem (by rw [h.1]; exact hlt)⟩
      obtain ⟨b, o, rfl, hb, hc⟩ := h.2 k v hv
      have c0 := hkp.cell (hc 0 _ rfl) (fun h => h)
      simp only [Nat.add_zero, Nat.mul_one] at c0
      have Ht := Lib.hid (any_take_succ p vs k v hv)
      have Hno := Lib.hid hno
      have Hv := Lib.hid hv
      have HC := Lib.hid (HF.out v (List.mem_of_getElem? hv) _ hkp)
      have HK := Lib.hid hkp
      clear hno hv hc hkp
      cases hbad : p v
      · rw [hbad] at HC
        have HB := Lib.hid hbad
        clear hbad
        simp only [kyV] at HC
        go_wp2_with (go_at_call 62; refine HC.out.mono ?_; rintro e w' ⟨rfl, hkp'⟩)
        go_roundw
        case rel => exact ⟨k + 1, by omega, by go_num, by rw [Ht.out, Hno.out, HB.out]; rfl, HK.out.tr hkp'⟩
        case measure => simp [intOf]; omega
      · rw [hbad] at HC
        have HB := Lib.hid hbad
        clear hbad
        simp only [kyV] at HC
        go_wp2_with (go_at_call 62; refine HC.out.mono ?_; rintro e w' ⟨rfl, hkp'⟩)
        go_ret
        refine ⟨k, rfl, ?_, HK.out.tr hkp'⟩
        have : vs.any p = true := List.any_eq_true.2 ⟨v, List.mem_of_getElem? Hv.out, HB.out⟩
        rw [this]
        simp
    · have HK := Lib.hid hkp
      have Hno := Lib.hid hno
      clear hkp hno
      go_wp2
      go_ret
      refine ⟨-1, rfl, ?_, HK.out⟩
      have hno := Hno.out
      rw [List.take_of_length_le (by rw [h.1]; omega)] at hno
      rw [hno]
      rfl
theorem contains_kya (A : Option Addr) (n cap : Nat) (vs : List Ky) (p : Ky → Bool) (w : World) (h : Rd kyC 1 w A n vs) (hn : n ≤ 100000000) (hf : ∀ v ∈ vs, ∀ w', Kp No w w' → Calls Tryz.prog 62 #[kyV v] w' fun e w'' => e = .returned (.bool (p v)) ∧ Kp No w' w'') :
    Calls Tryz.prog 61 #[.slice A n cap, .func (.func 62) #[] #[]] w fun e w' => e = .returned (.bool (vs.any p)) ∧ Kp No w w' := by
  have HI := Lib.hid (index_kya A n cap vs p w h hn hf)
  clear hf
  go_enter Tryz.func61, Tryz.ntmps61
  go_wp2_with (go_at_call 98; refine HI.out.mono ?_; rintro e w' ⟨i, rfl, hi, hkp⟩)
  go_ret
  exact ⟨by first | rfl | exact ret_bool hi, hkp⟩
set_option maxHeartbeats 1000000 in
theorem index_kyb (A : Option Addr) (n cap : Nat) (vs : List Ky) (p : Ky → Bool) (w : World) (h : Rd kyC 1 w A n vs) (hn : n ≤ 100000000) (hf : ∀ v ∈ vs, ∀ w', Kp No w w' → Calls Tryz.prog 63 #[kyV v] w' fun e w'' => e = .returned (.bool (p v)) ∧ Kp No w' w'') :
    Calls Tryz.prog 98 #[.slice A n cap, .func (.func 63) #[] #[]] w fun e w' => ∃ i : Int, e = .returned (.int .i64 i) ∧ (decide (0 ≤ i) = vs.any p) ∧ Kp No w w' := by
  have HF := Lib.hid hf
  clear hf
  go_enter Tryz.func98, Tryz.ntmps98
  go_wp2_with fail
  go_loopw [8] (fun i wr => ∃ k : Nat, k ≤ n ∧ i = .int .i64 k ∧ (vs.take k).any p = false ∧ Kp No w wr) (fun i _ => n - (intOf i).toNat)
  case atStart => exact ⟨0, by omega, rfl, by simp, Kp.refl _ _⟩
  case round =>
    obtain ⟨k, hk, rfl, hno, hkp⟩ := hrel
    by_cases hlt : k < n
    · obtain ⟨v, hv⟩ : ∃ v, vs[k]? = some v := ⟨_, List.getElem?_eq_getElem (by rw [h.1]; exact hlt)⟩
      obtain ⟨b, o, rfl, hb, hc⟩ := h.2 k v hv
      have c0 := hkp.cell (hc 0 _ rfl) (fun h => h)
      simp only [Nat.add_zero, Nat.mul_one] at c0
      have Ht := Lib.hid (any_take_succ p vs k v hv)
      have Hno := Lib.hid hno
      have Hv := Lib.hid hv
      have HC := Lib.hid (HF.out v (List.mem_of_getElem? hv) _ hkp)
      have HK := Lib.hid hkp
      clear hno hv hc hkp
      cases hbad : p v
      · rw [hbad] at HC
        have HB := Lib.hid hbad
        clear hbad
        simp only [kyV] at HC
        go_wp2_with (go_at_call 63; refine HC.out.mono ?_; rintro e w' ⟨rfl, hkp'⟩)
        go_roundw
        case rel => exact ⟨k + 1, by omega, by go_num, by rw [Ht.out, Hno.out, HB.out]; rfl, HK.out.tr hkp'⟩
        case measure => simp [intOf]; omega
      · rw [hbad] at HC
        have HB := Lib.hid hbad
        clear hbad
        simp only [kyV] at HC
        go_wp2_with (go_at_call 63; refine HC.out.mono ?_; rintro e w' ⟨rfl, hkp'⟩)
        go_ret
        refine ⟨k, rfl, ?_, HK.out.tr hkp'⟩
        have : vs.any p = true := List.any_eq_true.2 ⟨v, List.mem_of_getElem? Hv.out, HB.out⟩
        rw [this]
        simp
    · have HK := Lib.hid hkp
      have Hno := Lib.hid hno
      clear hkp hno
      go_wp2
      go_ret
      refine ⟨-1, rfl, ?_, HK.out⟩
      have hno := Hno.out
      rw [List.take_of_length_le (by rw [h.1]; omega)] at hno
      rw [hno]
      rfl
theorem contains_kyb (A : Option Addr) (n cap : Nat) (vs : List Ky) (p : Ky → Bool) (w : World) (h : Rd kyC 1 w A n vs) (hn : n ≤ 100000000) (hf : ∀ v ∈ vs, ∀ w', Kp No w w' → Calls Tryz.prog 63 #[kyV v] w' fun e w'' => e = .returned (.bool (p v)) ∧ Kp No w' w'') :
    Calls Tryz.prog 61 #[.slice A n cap, .func (.func 63) #[] #[]] w fun e w' => e = .returned (.bool (vs.any p)) ∧ Kp No w w' := by
  have HI := Lib.hid (index_kyb A n cap vs p w h hn hf)
  clear hf
  go_enter Tryz.func61, Tryz.ntmps61
  go_wp2_with (go_at_call 98; refine HI.out.mono ?_; rintro e w' ⟨i, rfl, hi, hkp⟩)
  go_ret
  exact ⟨by first | rfl | exact ret_bool hi, hkp⟩
set_option maxHeartbeats 1000000 in
theorem index_kyc {cv : Value} (A : Option Addr) (n cap : Nat) (vs : List Ky) (p : Ky → Bool) (w : World) (h : Rd kyC 1 w A n vs) (hn : n ≤ 100000000) (hf : ∀ v ∈ vs, ∀ w', Kp No w w' → Calls Tryz.prog 64 #[kyV v, cv] w' fun e w'' => e = .returned (.bool (p v)) ∧ Kp No w' w'') :
    Calls Tryz.prog 98 #[.slice A n cap, .func (.func 64) #[] #[cv]] w fun e w' => ∃ i : Int, e = .returned (.int .i64 i) ∧ (decide (0 ≤ i) = vs.any p) ∧ Kp No w w' := by
  have HF := Lib.hid hf
  clear hf
  go_enter Tryz.func98, Tryz.ntmps98
  go_wp2_with fail
  go_loopw [8] (fun i wr => ∃ k : Nat, k ≤ n ∧ i = .int .i64 k ∧ (vs.take k).any p = false ∧ Kp No w wr) (fun i _ => n - (intOf i).toNat)
  case atStart => exact ⟨0, by omega, rfl, by simp, Kp.refl _ _⟩
  case round =>
    obtain ⟨k, hk, rfl, hno, hkp⟩ := hrel
    by_cases hlt : k < n
    · obtain ⟨v, hv⟩ : ∃ v, vs[k]? = some v := ⟨_, List.getElem?_eq_getElem (by rw [h.1]; exact hlt)⟩
      obtain ⟨b, o, rfl, hb, hc⟩ := h.2 k v hv
      have c0 := hkp.cell (hc 0 _ rfl) (fun h => h)
      simp only [Nat.add_zero, Nat.mul_one] at c0
      have Ht := Lib.hid (any_take_succ p vs k v hv)
      have Hno := Lib.hid hno
      have Hv := Lib.hid hv
      have HC := Lib.hid (HF.out v (List.mem_of_getElem? hv) _ hkp)
      have HK := Lib.hid hkp
      clear hno hv hc hkp
      cases hbad : p v
      · rw [hbad] at HC
        have HB := Lib.hid hbad
        clear hbad
        simp only [kyV] at HC
        go_wp2_with (go_at_call 64; refine HC.out.mono ?_; rintro e w' ⟨rfl, hkp'⟩)
        go_roundw
        case rel => exact ⟨k + 1, by omega, by go_num, by rw [Ht.out, Hno.out, HB.out]; rfl, HK.out.tr hkp'⟩
        case measure => simp [intOf]; omega
      · rw [hbad] at HC
        have HB := Lib.hid hbad
        clear hbad
        simp only [kyV] at HC
        go_wp2_with (go_at_call 64; refine HC.out.mono ?_; rintro e w' ⟨rfl, hkp'⟩)
        go_ret
        refine ⟨k, rfl, ?_, HK.out.tr hkp'⟩
        have : vs.any p = true := List.any_eq_true.2 ⟨v, List.mem_of_getElem? Hv.out, HB.out⟩
        rw [this]
        simp
    · have HK := Lib.hid hkp
      have Hno := Lib.hid hno
      clear hkp hno
      go_wp2
      go_ret
      refine ⟨-1, rfl, ?_, HK.out⟩
      have hno := Hno.out
      rw [List.take_of_length_le (by rw [h.1]; omega)] at hno
      rw [hno]
      rfl
theorem contains_kyc {cv : Value} (A : Option Addr) (n cap : Nat) (vs : List Ky) (p : Ky → Bool) (w : World) (h : Rd kyC 1 w A n vs) (hn : n ≤ 100000000) (hf : ∀ v ∈ vs, ∀ w', Kp No w w' → Calls Tryz.prog 64 #[kyV v, cv] w' fun e w'' => e = .returned (.bool (p v)) ∧ Kp No w' w'') :
    Calls Tryz.prog 61 #[.slice A n cap, .func (.func 64) #[] #[cv]] w fun e w' => e = .returned (.bool (vs.any p)) ∧ Kp No w w' := by
  have HI := Lib.hid (index_kyc A n cap vs p w h hn hf)
  clear hf
  go_enter Tryz.func61, Tryz.ntmps61
  go_wp2_with (go_at_call 98; refine HI.out.mono ?_; rintro e w' ⟨i, rfl, hi, hkp⟩)
  go_ret
  exact ⟨by first | rfl | exact ret_bool hi, hkp⟩
set_option maxHeartbeats 1000000 in
theorem keys1_is (k : Ky) (w : World) : Calls Tryz.prog 62 #[kyV k] w fun e w' => e = .returned (.bool (kLong k)) ∧ Kp No w w' := by
  obtain ⟨A, n, c, ps⟩ := k
  unfold kLong kyV
  by_cases h : 200 < n
  · rw [decide_eq_true (show 200 < (Ky.mk A n c ps).n from h)]
    have h2 : (200 : Int) < (n : Int) := by omega
    go_enter Tryz.func62, Tryz.ntmps62
    go_wp2_with fail
    go_ret
    exact ⟨by first | rfl | exact ret_bool (by simp [h2]), Kp.refl _ _⟩
  · rw [decide_eq_false (show ¬ 200 < (Ky.mk A n c ps).n from h)]
    have h2 : ¬ (200 : Int) < (n : Int) := by omega
    go_enter Tryz.func62, Tryz.ntmps62
    go_wp2_with fail
    go_ret
    exact ⟨by first | rfl | exact ret_bool (by simp [h2]), Kp.refl _ _⟩
set_option maxHeartbeats 1000000 in
theorem keys2_is (k : Ky) (w : World) (h : Rd pcells 2 w k.A k.n k.ps) (hn : k.n ≤ 1000000) : Calls Tryz.prog 63 #[kyV k] w fun e w' => e = .returned (.bool (kForm k)) ∧ Kp No w w' := by
  have RI := Lib.hid (rising_any k.A k.n k.c k.ps w h hn)
  unfold kForm kyV
  clear h
  go_enter Tryz.func63, Tryz.ntmps63
  go_wp2_with fail
  refine RI.out.mono ?_
  rintro _ w2 ⟨rfl, k2⟩
  go_wp2_with fail
  go_ret
  exact ⟨by first | rfl | exact ret_bool (by simp), k2⟩
set_option maxHeartbeats 1000000 in
theorem keys3_is (k : Ky) (g m cp gb : Nat) (P : Option Addr) (l : List Rw) (w : World) (h : Rd pcells 2 w k.A k.n k.ps) (hn : k.n ≤ 1000000) (hr : risB (l.map Rw.pp) = true) (hm : MapAt w g ep rwV (bookL l)) (hb : w.heap[gb]? = some (.cells #[.map (some g), .slice P m cp] 68 (0, 0))) :
    Calls Tryz.prog 64 #[kyV k, .pointer (some ⟨gb, 0, none⟩)] w fun e w' => e = .returned (.bool (kUnk l k)) ∧ Kp No w w' := by
  have CN := Lib.hid (contains_pipe (bv := .agg #[.map (some g), .slice P m cp]) k.A k.n k.c k.ps (fun p => !(rowOf l p).isSome) w h (by omega) (fun v w' k' => by
    have := unknown_any g m cp P (bookL l) v w' (hm.kept (k'.toGrownNo none) (by simp))
    rw [get_bookL hr] at this
    exact this))
  obtain ⟨b0, b1, _, _⟩ := two_cells hb
  unfold kUnk kyV
  obtain ⟨z, hz⟩ : ∃ z : Bool, (k.ps.any fun p => !(rowOf l p).isSome) = z := ⟨_, rfl⟩
  rw [hz] at CN ⊢
  clear h hm hb hr hz
  go_enter Tryz.func64, Tryz.ntmps64
  go_wp2_with fail
  refine CN.out.mono ?_
  rintro _ w2 ⟨rfl, k2⟩
  go_wp2_with fail
  go_ret
  exact ⟨rfl, k2⟩
end Go.Proofs.YtlieijnhaolnhaaGreat

namespace Go.Proofs.YtlieijnhaolnhaaGreat
open Go.RowKit Go.Kq

set_option maxHeartbeats 4000000 in
set_option maxRecDepth 100000 in
theorem pkeys_opn (A P Q : Option Addr) (n m kn ca cp cq : Nat) (chest : Int) (l : List Rw) (ps : List Int) (ks : List Ky) (w : World) (hx : Rd rwC 5 w A n l) (hp : RdI .i64 w P m ps) (hm : m ≤ 1000000) (h0 : opnE l ps ≠ 0) :
    Calls Tryz.prog 23 #[.slice A n ca, .slice P m cp, .int .i64 chest, .slice Q kn cq] w (KeysP l ps chest ks w) := by
  have OP := Lib.hid (open_bad A P n m ca cp l ps w hx hp hm h0)
  have FIN := Lib.hid (fun w' hk' => keys_nil (w := w) (w' := w') (keysE_opn (chest := chest) (ks := ks) h0) h0 hk')
  unfold bk0 at OP
  generalize opnE l ps = E at *
  have he2 : (E != 0) = true := bne_iff_ne.2 h0
  clear hx hp h0
  go_enter Tryz.func23, Tryz.ntmps23
  go_wp2_with fail
  refine OP.out.mono ?_
  rintro _ w1 ⟨rfl, k1⟩
  have K1 := Lib.hid (k1.tr (Kp.alloc No w1 (.cells #[.map none, .slice none 0 0] 68)))
  clear k1 OP
  go_wp2_with fail
  exact bodyPost_ret (v := .tuple #[.slice none 0 0, .int .i64 E]) (by simp [results, Tryz.results23, go_sem]) rfl (FIN.out _ K1.out)
set_option maxHeartbeats 4000000 in
set_option maxRecDepth 100000 in
theorem pkeys_chest (A P Q : Option Addr) (n m kn ca cp cq : Nat) (chest : Int) (l : List Rw) (ps : List Int) (ks : List Ky) (w : World) (hx : Rd rwC 5 w A n l) (hp : RdI .i64 w P m ps) (h0 : opnE l ps = 0) (hc : chest < 0 ∨ (m : Int) ≤ chest) :
    Calls Tryz.prog 23 #[.slice A n ca, .slice P m cp, .int .i64 chest, .slice Q kn cq] w (KeysP l ps chest ks w) := by
  have OP := Lib.hid (open_ok A P n m ca cp l ps w hx hp h0)
  have hpl := hp.1
  have FIN := Lib.hid (fun w' hk' => keys_nil (w := w) (w' := w') (keysE_chest (chest := chest) (ks := ks) h0 (by omega)) (by omega) hk')
  clear hx hp h0
  go_enter Tryz.func23, Tryz.ntmps23
  go_wp2_with fail
  refine OP.out.mono ?_
  rintro _ w1 ⟨g, rfl, _, _, k1⟩
  have K1 := Lib.hid (k1.tr (Kp.alloc No w1 (.cells #[.map (some g), .slice P m cp] 68)))
  clear k1 OP
  rcases hc with hc | hc
  · go_wp2_with fail
    exact bodyPost_ret (v := .tuple #[.slice none 0 0, .int .i64 2]) (by simp [results, Tryz.results23, go_sem]) rfl (FIN.out _ K1.out)
  · have hc0 : (0 : Int) ≤ chest := by omega
    go_wp2_with fail
    exact bodyPost_ret (v := .tuple #[.slice none 0 0, .int .i64 2]) (by simp [results, Tryz.results23, go_sem]) rfl (FIN.out _ K1.out)
set_option maxHeartbeats 4000000 in
set_option maxRecDepth 100000 in
theorem pkeys_many (A P Q : Option Addr) (n m kn ca cp cq c : Nat) (l : List Rw) (ps : List Int) (ks : List Ky) (w : World) (hx : Rd rwC 5 w A n l) (hp : RdI .i64 w P m ps) (hkl : ks.length = kn) (h0 : opnE l ps = 0) (hcm : c < m) (hk : 128 < kn) :
    Calls Tryz.prog 23 #[.slice A n ca, .slice P m cp, .int .i64 (c : Nat), .slice Q kn cq] w (KeysP l ps c ks w) := by
  have OP := Lib.hid (open_ok A P n m ca cp l ps w hx hp h0)
  have hpl := hp.1
  have FIN := Lib.hid (fun w' hk' => keys_nil (w := w) (w' := w') (keysE_long (chest := c) (ks := ks) h0 (by omega) (.inl (by omega))) (by omega) hk')
  have hc0 : (0 : Int) ≤ (c : Int) := by omega
  have hc1 : (c : Int) < (m : Int) := by omega
  have hk2 : (128 : Int) < (kn : Int) := by omega
  clear hx hp h0
  go_enter Tryz.func23, Tryz.ntmps23
  go_wp2_with fail
  refine OP.out.mono ?_
  rintro _ w1 ⟨g, rfl, _, _, k1⟩
  have K1 := Lib.hid (k1.tr (Kp.alloc No w1 (.cells #[.map (some g), .slice P m cp] 68)))
  clear k1 OP
  go_wp2_with fail
  exact bodyPost_ret (v := .tuple #[.slice none 0 0, .int .i64 3]) (by simp [results, Tryz.results23, go_sem]) rfl (FIN.out _ K1.out)
theorem any_false {α : Type} {p : α → Bool} {l : List α} (h : l.any p = false) : ∀ x ∈ l, p x = false := fun x hx => by
  rw [List.any_eq_false] at h
  have := h x hx
  cases hp : p x
  · rfl
  · exact absurd hp this
set_option maxHeartbeats 8000000 in
set_option maxRecDepth 100000 in
theorem pkeys_in (A P Q : Option Addr) (n m kn ca cp cq c : Nat) (l : List Rw) (ps : List Int) (ks : List Ky) (w : World) (hx : Rd rwC 5 w A n l) (hp : RdI .i64 w P m ps) (hks : RdK w Q kn ks) (h0 : opnE l ps = 0) (hcm : c < m) (hk : kn ≤ 128) :
    Calls Tryz.prog 23 #[.slice A n ca, .slice P m cp, .int .i64 (c : Nat), .slice Q kn cq] w (KeysP l ps c ks w) := by
  have OP := Lib.hid (open_ok A P n m ca cp l ps w hx hp h0)
  have hpl := hp.1
  have hkl := hks.row.1
  have hG := good_of h0
  have HKL := Lib.hid hkl
  have HC0 := Lib.hid h0
  have HCH := Lib.hid (show ¬ ((c : Int) < 0 ∨ (ps.length : Int) ≤ (c : Int)) by omega)
  have hc0 : (0 : Int) ≤ (c : Int) := by omega
  have hc1 : (c : Int) < (m : Int) := by omega
  have hk2 : (kn : Int) ≤ 128 := by omega
  have hmc : decide (m ≤ c) = false := decide_eq_false (by omega)
  have hc3 : decide ((c : Int) < 0) = false := decide_eq_false (by omega)
  have HK := Lib.hid hks
  have HP := Lib.hid hp
  have HG := Lib.hid hG
  have C1 := Lib.hid (fun w0 (hk : Kp No w w0) => contains_kya Q kn cq ks kLong w0 (hks.row.no hk) (by omega) (fun v _ w' _ => keys1_is v w'))
  clear hx hp h0 hks hG hkl
  go_enter Tryz.func23, Tryz.ntmps23
  go_wp2_with fail
  refine OP.out.mono ?_
  rintro _ w1 ⟨g, rfl, hm1, hg1, k1⟩
  have ka := Kp.alloc No w1 (.cells #[.map (some g), .slice P m cp] 68)
  have K1 := Lib.hid (k1.tr ka)
  have HM := Lib.hid (hm1.alloc (.cells #[.map (some g), .slice P m cp] 68))
  have HB := Lib.hid (heap_alloc_new w1 (.cells #[.map (some g), .slice P m cp] 68))
  clear k1 OP hm1 hg1 ka
  go_wp2_with fail
  generalize w1.alloc (.cells #[.map (some g), .slice P m cp] 68) = w2 at *
  generalize w1.heap.size = gb at *
  refine (C1.out _ K1.out).mono ?_
  rintro _ w3 ⟨rfl, k3⟩
  have K3 := Lib.hid (K1.out.tr k3)
  have HM3 := Lib.hid (HM.out.kept (k3.toGrownNo none) (by simp))
  have HB3 := Lib.hid (k3.heap HB.out id)
  clear k3 C1 K1 HM HB
  cases hl : ks.any kLong
  · have HL := Lib.hid (any_false hl)
    have C2 := Lib.hid (contains_kyb Q kn cq ks kForm w3 (HK.out.row.no K3.out) (by omega) (fun v hv w' k' => keys2_is v w' ((HK.out.key v hv).no (K3.out.tr k')) (by
      have := HL.out v hv
      unfold kLong at this
      have := of_decide_eq_false this
      omega)))
    clear hl
    go_wp2_with fail
    refine C2.out.mono ?_
    rintro _ w4 ⟨rfl, k4⟩
    have K4 := Lib.hid (K3.out.tr k4)
    have HM4 := Lib.hid (HM3.out.kept (k4.toGrownNo none) (by simp))
    have HB4 := Lib.hid (k4.heap HB3.out id)
    clear k4 C2 K3 HM3 HB3
    cases hf : ks.any kForm
    · have HF := Lib.hid (any_false hf)
      have C3 := Lib.hid (contains_kyc (cv := .pointer (some ⟨gb, 0, none⟩)) Q kn cq ks (kUnk l) w4 (HK.out.row.no K4.out) (by omega) (fun v hv w' k' => keys3_is v g m cp gb P l w' ((HK.out.key v hv).no (K4.out.tr k')) (by
        have := HL.out v hv
        unfold kLong at this
        have := of_decide_eq_false this
        omega) HG.out.rise (HM4.out.kept (k'.toGrownNo none) (by simp)) (k'.heap HB4.out id)))
      clear hf
      go_wp2_with fail
      refine C3.out.mono ?_
      rintro _ w5 ⟨rfl, k5⟩
      have K5 := Lib.hid (K4.out.tr k5)
      have HM5 := Lib.hid (HM4.out.kept (k5.toGrownNo none) (by simp))
      have HB5 := Lib.hid (k5.heap HB4.out id)
      clear k5 C3 K4 HM4 HB4
      cases hu : ks.any (kUnk l)
      · have HU := Lib.hid (any_false hu)
        have hmk := make_ivs kn (by omega)
        clear hu
        have hE0 := keysE_ok (chest := c) HC0.out HCH.out (fun h => h.elim (fun h => by have := HKL.out; omega) (any_no HL.out)) (any_no HF.out) (any_no HU.out)
        have hV : keysV l ps c ks = ks.map (fun k => sumAt l ps k.ps c) := by
          unfold keysV
          rw [if_pos hE0, Int.toNat_natCast]
        have hLl : (ks.map (fun k => sumAt l ps k.ps c)).length = kn := by rw [List.length_map]; exact HKL.out
        have FIN := Lib.hid (fun w' (v : Value) (h1 : w'.ownsRow w.heap.size 25 2 v kn ((ks.map (fun k => sumAt l ps k.ps c)).flatMap ivC)) (h2 : Kp No w w') => show KeysP l ps c ks w (.returned (.tuple #[v, .int .i64 0])) w' from ⟨v, by rw [hE0], by rw [hV, hLl]; exact h1, h2⟩)
        have HLl := Lib.hid hLl
        clear hE0 hV hLl
        go_wp2_with fail
        clear hmk
        have M0 : (w5.alloc (.cells ((List.replicate kn ((0, 0) : Int × Int)).flatMap ivC).toArray 25)).ownsRow w.heap.size 25 2 (.slice (some ⟨w5.heap.size, 0, none⟩) kn kn) kn ((List.replicate kn ((0, 0) : Int × Int)).flatMap ivC) :=
          own_made w5 (by rw [flat_len ivC_len]; simp) K5.out.size (by unfold maxLen; omega)
        have M0K := Kp.alloc No w5 (.cells ((List.replicate kn ((0, 0) : Int × Int)).flatMap ivC).toArray 25)
        replace M0 := Lib.hid M0
        replace M0K := Lib.hid M0K
        go_loopw [54] (fun i wr => ∃ (j : Nat) (out : List (Int × Int)), j ≤ kn ∧ i = .int .i64 j ∧ out.length = kn ∧ (∀ i, i < j → out[i]? = (ks.map (fun k => sumAt l ps k.ps c))[i]?) ∧ wr.ownsRow w.heap.size 25 2 (.slice (some ⟨w5.heap.size, 0, none⟩) kn kn) kn (out.flatMap ivC) ∧ Kp No w5 wr) (fun i _ => kn - (intOf i).toNat)
        case atStart => exact ⟨0, List.replicate kn (0, 0), by omega, rfl, by simp, fun i h => absurd h (by omega), by simpa using M0.out, by simpa using M0K.out⟩
        case round =>
          obtain ⟨j, out, hj, rfl, hol, hoe, hown, hkp⟩ := hrel
          have HO := Lib.hid hown
          have HOE := Lib.hid (And.intro hol hoe)
          have KJ := Lib.hid hkp
          clear hol hoe hown hkp
          by_cases hlt : j < kn
          · obtain ⟨y, hyk⟩ : ∃ x, ks[j]? = some x := ⟨_, List.getElem?_eq_getElem (by have := HKL.out; omega)⟩
            obtain ⟨b, o, rfl, hbb, hcy⟩ := HK.out.row.2 j y hyk
            have hym := List.mem_of_getElem? hyk
            have KW := K5.out.tr KJ.out
            have q0 := KW.cell (hcy 0 _ rfl) id
            simp only [Nat.add_zero, Nat.mul_one] at q0
            obtain ⟨b0, b1, _, _⟩ := two_cells (KJ.out.heap HB5.out id)
            have hyn : y.n ≤ 200 := by
              have := HL.out y hym
              unfold kLong at this
              have := of_decide_eq_false this
              omega
            have AD := Lib.hid (add_any_book g m y.n cp y.c P y.A l ps y.ps wr (HM5.out.kept (KJ.out.toGrownNo none) (by simp)) (HP.out.no KW) ((HK.out.key y hym).no KW) HG.out (fun p hp => by
              have := any_false (HU.out y hym) p hp
              cases hi : rowOf l p with
              | none => rw [hi] at this; cases this
              | some x => exact ⟨x, rfl⟩) (by omega))
            have AT := addL_at l ps y.ps c (by omega)
            have hLj : (ks.map (fun k => sumAt l ps k.ps c))[j]? = some (sumAt l ps y.ps c) := by rw [List.getElem?_map, hyk]; rfl
            have hlen := addL_len l ps y.ps
            generalize addL l ps y.ps = AL at *
            generalize sumAt l ps y.ps c = S at *
            obtain ⟨s1, s2⟩ := S
            have KWH := Lib.hid KW
            have HLJ := Lib.hid hLj
            have hj0 : (0 : Int) ≤ (j : Int) := by omega
            have hjn : (j : Int) < (kn : Int) := by omega
            have hj9 : IntKind.i64.wrap ((j : Int) + 1) = (j : Int) + 1 := by rw [IntKind.wrap_i64]; omega
            clear hyk hcy hym KW hLj
            go_wp2_with fail
            refine AD.out.mono ?_
            rintro _ w6 ⟨v, rfl, hv, k6⟩
            obtain ⟨av, cv, rfl, _, _, hav⟩ := own_form hv
            obtain ⟨gv, rfl⟩ := hav (by omega)
            have e0 := own_cell hv (flat_at ivC_len AL c (s1, s2) 0 _ AT rfl)
            have e1 := own_cell hv (flat_at ivC_len AL c (s1, s2) 1 _ AT rfl)
            simp only [Nat.add_zero] at e0
            have HO6 := Lib.hid (own_kp HO.out k6 (fun _ _ h => h))
            have K6 := Lib.hid (KJ.out.tr k6)
            obtain ⟨z, hz⟩ : ∃ z, out[j]? = some z := ⟨_, List.getElem?_eq_getElem (by have := HOE.out.1; omega)⟩
            have f0 := own_cell HO6.out (flat_at ivC_len out j z 0 _ hz rfl)
            have f1 := own_cell HO6.out (flat_at ivC_len out j z 1 _ hz rfl)
            simp only [Nat.add_zero] at f0
            have z0 := own_free HO6.out (j * 2)
            have z1 := own_free HO6.out (j * 2 + 1)
            have HZ := Lib.hid hz
            clear hv k6 AD hz
            go_wp2_with fail
            go_round
            case rel =>
              refine ⟨j + 1, out.set j (s1, s2), by omega, by go_num, by rw [List.length_set]; exact HOE.out.1, fun i hi => ?_, ?_, ?_⟩
              · rw [List.getElem?_set]
                by_cases hij : j = i
                · subst hij
                  rw [if_pos rfl, if_pos (by have := HOE.out.1; omega), HLJ.out]
                · rw [if_neg hij]
                  exact HOE.out.2 i (by omega)
              · rw [← set_two out j z s1 s2 HZ.out]
                exact own_set (own_set HO6.out _ _) _ _
              · exact (K6.out.trans ((kp_setOne w6 w5.heap.size (j * 2) (.int .i64 s1)).tr (kp_setOne _ w5.heap.size (j * 2 + 1) (.int .i64 s2))) (fun k hk e => by unfold Kq.One at e; omega))
            case measure => simp [intOf] <;> omega
          · obtain rfl : kn = j := by omega
            have hO := HO.out
            have he : out = ks.map (fun k => sumAt l ps k.ps c) := by
              refine List.ext_getElem? fun i => ?_
              rcases Nat.lt_or_ge i kn with h | h
              · exact HOE.out.2 i h
              · rw [List.getElem?_eq_none (by have := HOE.out.1; omega), List.getElem?_eq_none (by have := HLl.out; omega)]
            rw [he] at hO
            have HF2 := Lib.hid (FIN.out wr _ hO (K5.out.tr KJ.out))
            clear hO he
            go_wp2_with fail
            exact bodyPost_ret (v := .tuple #[.slice (some ⟨w5.heap.size, 0, none⟩) kn kn, .int .i64 0]) (by simp [results, Tryz.results23, go_sem]) rfl HF2.out
      · have FIN := Lib.hid (fun w' hk' => keys_nil (w := w) (w' := w') (keysE_unk (chest := c) HC0.out HCH.out (fun h => h.elim (fun h => by have := HKL.out; omega) (any_no HL.out)) (any_no HF.out) hu) (by omega) hk')
        clear hu
        go_wp2_with fail
        exact bodyPost_ret (v := .tuple #[.slice none 0 0, .int .i64 4]) (by simp [results, Tryz.results23, go_sem]) rfl (FIN.out _ K5.out)
    · have FIN := Lib.hid (fun w' hk' => keys_nil (w := w) (w' := w') (keysE_form (chest := c) HC0.out HCH.out (fun h => h.elim (fun h => by have := HKL.out; omega) (any_no HL.out)) hf) (by omega) hk')
      clear hf
      go_wp2_with fail
      exact bodyPost_ret (v := .tuple #[.slice none 0 0, .int .i64 6]) (by simp [results, Tryz.results23, go_sem]) rfl (FIN.out _ K4.out)
  · have FIN := Lib.hid (fun w' hk' => keys_nil (w := w) (w' := w') (keysE_long (chest := c) HC0.out HCH.out (.inr hl)) (by omega) hk')
    clear hl
    go_wp2_with fail
    exact bodyPost_ret (v := .tuple #[.slice none 0 0, .int .i64 3]) (by simp [results, Tryz.results23, go_sem]) rfl (FIN.out _ K3.out)
end Go.Proofs.YtlieijnhaolnhaaGreat
