/- Chapter 09: the reference's count, sum, fits: the walks. -/
import Derived.BigQuiet
import Derived.Test.YtamjhpdgclbfgaaXNsR
import Derived.Test.YtamjhpdgclbfgaaXRfA
import Derived.Test.YtamjhpdgclbfgaaXNwB
import Derived.Test.YtamjhpdgclbfgaaXLstM
namespace Go.Proofs.Ytamjhpdgclbfgaa
open Go.RowKit Go.Kq

theorem nat_at {S : List Nat} {k x : Nat} (h : S[k]? = some x) : (S.map Int.ofNat)[k]? = some (x : Int) := by
  rw [List.getElem?_map, h]
  rfl
theorem nat_len {w : World} {A : Option Addr} {n : Nat} {S : List Nat} (h : RdI .i64 w A n (S.map Int.ofNat)) : S.length = n := by
  have := h.1
  simpa using this
theorem cnt_take {S : List Nat} {k x : Nat} (h : S[k]? = some x) : cntF (S.take (k + 1)) = max (cntF (S.take k)) (x + 1) := by
  rw [List.take_add_one, h]
  exact cntF_snoc x _
theorem cnt_le {M : Nat} : ∀ {S : List Nat}, (∀ s ∈ S, s < M) → cntF S ≤ M
  | [], _ => Nat.zero_le _
  | s :: S, h => by
    rw [cntF_cons]
    have := h s (by simp)
    have := cnt_le (S := S) fun t ht => h t (by simp [ht])
    omega
set_option maxHeartbeats 2000000 in
theorem count_any (A : Option Addr) (n ca : Nat) (S : List Nat) (w : World) (hR : RdI .i64 w A n (S.map Int.ofNat)) (hn : n ≤ 100000) (hb : ∀ s ∈ S, s < 100000) :
    Calls Try.prog 32 #[.slice A n ca] w fun e w' => e = .returned (.int .i64 (cntF S : Nat)) ∧ w' = w := by
  have hl := nat_len hR
  have HR := Lib.hid hR
  have HB := Lib.hid hb
  clear hR hb
  go_enter Try.func32, Try.ntmps32
  go_wp2
  go_loop [3, 4] (fun v s => ∃ k : Nat, k ≤ n ∧ s = .int .i64 k ∧ v = .int .i64 (cntF (S.take k) : Nat)) (fun _ s => n - (intOf s).toNat)
  case atStart => exact ⟨0, by omega, rfl, rfl⟩
  case round =>
    obtain ⟨k, hk, rfl, rfl⟩ := hrel
    by_cases hlt : k < n
    · obtain ⟨x, hx⟩ : ∃ x, S[k]? = some x := ⟨_, List.getElem?_eq_getElem (by omega)⟩
      obtain ⟨b, o, rfl, hbb, hc⟩ := HR.out.2 k _ (nat_at hx)
      have hx1 := HB.out x (List.mem_of_getElem? hx)
      have hs := cnt_take hx
      have hc1 : cntF (S.take k) ≤ 100000 := cnt_le fun s hs => HB.out s (List.mem_of_mem_take hs)
      have hlt' : (k : Int) < n := by omega
      generalize cntF (S.take k) = q at *
      have hm : max (q : Int) ((x : Int) + 1) = ((max q (x + 1) : Nat) : Int) := by omega
      clear hx
      go_wp2
      go_round
      case rel => exact ⟨k + 1, by omega, by go_num, by rw [hs, ← hm]; congr 1; split <;> omega⟩
      case measure => simp [intOf]; omega
    · obtain rfl : k = n := by omega
      rw [List.take_of_length_le (by omega)]
      go_wp2
      go_ret
      exact ⟨rfl, rfl⟩
theorem sum_take {l : List Int} {k : Nat} {x : Int} (h : l[k]? = some x) : (l.take (k + 1)).sum = (l.take k).sum + x := by
  rw [List.take_add_one, h]
  simp
theorem suml_bd {M : Int} : ∀ {l : List Int}, (∀ x ∈ l, 0 ≤ x ∧ x ≤ M) → 0 ≤ l.sum ∧ l.sum ≤ M * l.length
  | [], _ => by simp
  | x :: l, h => by
    have h1 := h x (by simp)
    have h2 := suml_bd (M := M) (l := l) fun y hy => h y (by simp [hy])
    simp only [List.sum_cons, List.length_cons]
    have : M * ((l.length + 1 : Nat) : Int) = M * l.length + M := by
      rw [Int.natCast_add, Int.mul_add]
      simp
    omega
set_option maxHeartbeats 2000000 in
theorem sum_any (A : Option Addr) (n ca : Nat) (l : List Int) (w : World) (hR : RdI .i64 w A n l) (hn : n ≤ 1000) (hb : ∀ x ∈ l, 0 ≤ x ∧ x ≤ 1000000000) :
    Calls Try.prog 63 #[.slice A n ca] w fun e w' => e = .returned (.int .i64 l.sum) ∧ w' = w := by
  have hl := hR.1
  have HR := Lib.hid hR
  have HB := Lib.hid hb
  clear hR hb
  go_enter Try.func63, Try.ntmps63
  go_wp2
  go_loop [3, 4] (fun v s => ∃ k : Nat, k ≤ n ∧ s = .int .i64 k ∧ v = .int .i64 (l.take k).sum) (fun _ s => n - (intOf s).toNat)
  case atStart => exact ⟨0, by omega, rfl, rfl⟩
  case round =>
    obtain ⟨k, hk, rfl, rfl⟩ := hrel
    by_cases hlt : k < n
    · obtain ⟨x, hx⟩ : ∃ x, l[k]? = some x := ⟨_, List.getElem?_eq_getElem (by omega)⟩
      obtain ⟨b, o, rfl, hbb, hc⟩ := HR.out.2 k x hx
      have hx1 := HB.out x (List.mem_of_getElem? hx)
      have hs := sum_take hx
      have hc1 := suml_bd (M := 1000000000) (l := l.take k) fun s hs => HB.out s (List.mem_of_mem_take hs)
      have hkl : (l.take k).length ≤ 1000 := by rw [List.length_take]; omega
      have hc2 : 0 ≤ (l.take k).sum ∧ (l.take k).sum ≤ 1000000000000 := ⟨hc1.1, by omega⟩
      have hlt' : (k : Int) < n := by omega
      generalize (l.take k).sum = q at *
      clear hx hc1
      go_wp2
      go_round
      case rel => exact ⟨k + 1, by omega, by go_num, by rw [hs]⟩
      case measure => simp [intOf]; omega
    · obtain rfl : k = n := by omega
      rw [List.take_of_length_le (by omega)]
      go_wp2
      go_ret
      exact ⟨rfl, rfl⟩
def fitV (P : Pt) (l : List Ct) : Int := if l.any (bigC P) then 4 else 0
set_option maxHeartbeats 4000000 in
theorem rfits_any (P : Pt) (A : Option Addr) (n ca : Nat) (l : List Ct) (w : World) (hx : RdC w A n l) (hn : n ≤ 100000000) :
    Calls Try.prog 30 #[P.val, .slice A n ca] w fun e w' => e = .returned (.int .i64 (fitV P l)) ∧ Kp No w w' := by
  have hk0 : Kp No w (w.alloc (.cells #[.int .i64 P.w, .int .i64 P.h, .int .i64 P.k] 23)) := Kp.alloc _ _ _
  have hbx : (w.alloc (.cells #[.int .i64 P.w, .int .i64 P.h, .int .i64 P.k] 23)).heap[w.heap.size]? = some (.cells #[.int .i64 P.w, .int .i64 P.h, .int .i64 P.k] 23 (0, 0)) := heap_alloc_new _ _
  have HX := Lib.hid (hx.no hk0)
  have HL := Lib.hid hx.1
  have HV := Lib.hid (show fitV P l = if l.any (bigC P) then 4 else 0 from rfl)
  unfold Pt.val
  obtain ⟨g0, hg0⟩ : ∃ g0, g0 = w.heap.size := ⟨_, rfl⟩
  rw [← hg0] at hbx
  have HBX := Lib.hid hbx
  have HK0 := Lib.hid hk0
  clear hx hbx hk0
  go_enter Try.func30, Try.ntmps30
  go_wp2_with fail
  rw [← hg0]
  generalize (w.alloc (.cells #[.int .i64 P.w, .int .i64 P.h, .int .i64 P.k] 23)) = w0 at *
  clear hg0
  go_loopw [5] (fun i wr => ∃ k : Nat, k ≤ n ∧ i = .int .i64 k ∧ (l.take k).any (bigC P) = false ∧ Kp No w0 wr) (fun i _ => n - (intOf i).toNat)
  case atStart => exact ⟨0, by omega, rfl, by simp, Kp.refl _ _⟩
  case round =>
    obtain ⟨k, hk, rfl, hno, hkp⟩ := hrel
    have hb2 := hkp.heap HBX.out id
    have b0 : wr.cell? ⟨g0, 0, none⟩ = some (.int .i64 P.w) := by rw [cell_of_row _ _ _ _ _ _ hb2]; rfl
    have b1 : wr.cell? ⟨g0, 1, none⟩ = some (.int .i64 P.h) := by rw [cell_of_row _ _ _ _ _ _ hb2]; rfl
    clear hb2
    by_cases hlt : k < n
    · obtain ⟨v, hv⟩ : ∃ v, l[k]? = some v := ⟨_, List.getElem?_eq_getElem (by rw [HL.out]; exact hlt)⟩
      obtain ⟨b, o, rfl, hb, hc⟩ := (HX.out.no hkp).2 k v hv
      have c0 := hc 0 _ rfl
      have c1 := hc 1 _ rfl
      simp only [Nat.add_zero] at c0
      have Ht := Lib.hid (any_take_succ (bigC P) l k v hv)
      have Hno := Lib.hid hno
      have HK := Lib.hid hkp
      have HA := Lib.hid (fun h => show l.any (bigC P) = true from List.any_eq_true.2 ⟨v, List.mem_of_getElem? hv, h⟩)
      have HBC := Lib.hid (show bigC P v = (decide (P.w < v.w) || decide (P.h < v.h)) from rfl)
      have hlt' : (k : Int) < n := by omega
      clear hno hv hc hkp
      by_cases h1 : P.w < v.w
      · have d1 : decide (P.w < v.w) = true := decide_eq_true h1
        have HR := Lib.hid (HA.out (by rw [HBC.out, d1]; rfl))
        go_wp2_with fail
        go_quiet (fail)
        go_wp2_with fail
        go_ret
        exact ⟨by rw [HV.out, HR.out]; rfl, (HK0.out.tr HK.out).tr (Kp.drewN _ _ _)⟩
      · have d1 : decide (P.w < v.w) = false := decide_eq_false h1
        by_cases h2 : P.h < v.h
        · have d2 : decide (P.h < v.h) = true := decide_eq_true h2
          have HR := Lib.hid (HA.out (by rw [HBC.out, d1, d2]; rfl))
          go_wp2_with fail
          go_quiet (fail)
          go_wp2_with fail
          go_ret
          exact ⟨by rw [HV.out, HR.out]; rfl, (HK0.out.tr HK.out).tr (Kp.drewN _ _ _)⟩
        · have d2 : decide (P.h < v.h) = false := decide_eq_false h2
          have HR := Lib.hid (show bigC P v = false by rw [HBC.out, d1, d2]; rfl)
          go_wp2_with fail
          go_quiet (fail)
          go_wp2_with fail
          go_roundw
          case rel => exact ⟨k + 1, by omega, by go_num, by rw [Ht.out, Hno.out, HR.out]; rfl, HK.out.tr (Kp.drewN _ _ _)⟩
          case measure => simp [intOf]; omega
    · obtain rfl : k = n := by omega
      have HA := Lib.hid (show l.any (bigC P) = false by rw [List.take_of_length_le (by rw [HL.out]; omega)] at hno; exact hno)
      have HK := Lib.hid hkp
      clear hno hkp
      go_wp2_with fail
      go_ret
      exact ⟨by rw [HV.out, HA.out]; rfl, HK0.out.tr HK.out⟩
end Go.Proofs.Ytamjhpdgclbfgaa
