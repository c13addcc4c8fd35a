/- spans: check, Check, fit, Add. · spans: fit, Add, Check. -/
import Derived.Test.YtamjhpdgclbfgaaGreatXSpaM
namespace Go.Proofs.YtamjhpdgclbfgaaGreat
open Go.RowKit Go.Kq

def ivV (lo hi : Int) : Value := .agg #[.int .i64 lo, .int .i64 hi]
/-- The error of intervals. -/
def ckE (l : List (Int × Int)) : Int := if ∀ x ∈ l, fits x.1 = true ∧ fits x.2 = true then (if ∀ x ∈ l, x.1 ≤ x.2 then 0 else 2) else 7
theorem mem_take {α} {l : List α} {k : Nat} {x : α} (h : l[k]? = some x) : x ∈ l := List.mem_of_getElem? h
theorem all_take {α} {p : α → Prop} {l : List α} {k : Nat} {x : α} (h : ∀ y ∈ l.take k, p y) (hx : l[k]? = some x) (hp : p x) : ∀ y ∈ l.take (k + 1), p y := by
  intro y hy
  rw [List.take_add_one, hx] at hy
  rcases List.mem_append.1 hy with h1 | h1
  · exact h y h1
  · simp at h1
    rw [h1]
    exact hp
set_option maxHeartbeats 4000000 in
theorem check_any (l : List (Int × Int)) (g o n c : Nat) (w : World) (hl : l.length = n) (hn : n ≤ 1000)
    (hc : ∀ k x, l[k]? = some x → w.cell? ⟨g, o + k * 2, none⟩ = some (.int .i64 x.1) ∧ w.cell? ⟨g, o + k * 2 + 1, none⟩ = some (.int .i64 x.2)) :
    Calls Tryz.prog 35 #[.slice (some ⟨g, o, none⟩) n c] w fun e w' => e = .returned (.int .i64 (ckE l)) ∧ Kp No w w' := by
  have HC := Lib.hid hc
  clear hc
  have hnI : (n : Int) ≤ 1000 := by omega
  go_enter Tryz.func35, Tryz.ntmps35
  go_wp2_with fail
  go_loopw [9] (fun i wr => ∃ k : Nat, k ≤ n ∧ i = .int .i64 k ∧ (∀ x ∈ l.take k, fits x.1 = true ∧ fits x.2 = true) ∧ Kp No w wr) (fun i _ => n - (intOf i).toNat)
  case atStart => exact ⟨0, by omega, rfl, by simp, Kp.refl _ _⟩
  case round =>
    obtain ⟨k, hk, rfl, hall, hkp⟩ := hrel
    by_cases hkn : k < n
    · obtain ⟨x, hx⟩ : ∃ x, l[k]? = some x := ⟨l[k], List.getElem?_eq_getElem (by omega)⟩
      have c0 := hkp.cell (HC.out k x hx).1 (fun h => h)
      have c1 := hkp.cell (HC.out k x hx).2 (fun h => h)
      have hkI : (k : Int) < n := by omega
      have hw1 : IntKind.i64.wrap ((k : Int) + 1) = (k : Int) + 1 := by rw [IntKind.wrap_i64]; omega
      have HA := Lib.hid hall
      clear hall
      cases d1 : fits x.1
      · have HE := Lib.hid (show ckE l = 7 from by
          unfold ckE
          rw [if_neg]
          intro h
          have := (h x (mem_take hx)).1
          rw [d1] at this
          exact absurd this (by decide))
        go_wp2_with fail
        refine (number_any x.1 _).mono ?_
        rintro e w2 ⟨rfl, hw2⟩
        rw [d1]
        subst hw2
        go_wp2_with fail
        go_ret
        exact ⟨ret_i64 HE.out.symm, hkp.tr (Kp.alloc _ _ _)⟩
      · cases d2 : fits x.2
        · have HE := Lib.hid (show ckE l = 7 from by
            unfold ckE
            rw [if_neg]
            intro h
            have := (h x (mem_take hx)).2
            rw [d2] at this
            exact absurd this (by decide))
          go_wp2_with fail
          refine (number_any x.1 _).mono ?_
          rintro e w2 ⟨rfl, hw2⟩
          rw [d1]
          subst hw2
          go_wp2_with fail
          refine (number_any x.2 _).mono ?_
          rintro e w2 ⟨rfl, hw2⟩
          rw [d2]
          subst hw2
          go_wp2_with fail
          go_ret
          exact ⟨ret_i64 HE.out.symm, hkp.tr (Kp.alloc _ _ _)⟩
        · go_wp2_with fail
          refine (number_any x.1 _).mono ?_
          rintro e w2 ⟨rfl, hw2⟩
          rw [d1]
          subst hw2
          go_wp2_with fail
          refine (number_any x.2 _).mono ?_
          rintro e w2 ⟨rfl, hw2⟩
          rw [d2]
          subst hw2
          go_wp2_with fail
          go_roundw
          case rel => exact ⟨k + 1, by omega, by first | rfl | go_num, all_take HA.out hx ⟨d1, d2⟩, hkp.tr (Kp.alloc _ _ _)⟩
          case measure => simp [intOf]; omega
    · obtain rfl : k = n := by omega
      rw [List.take_of_length_le (by omega)] at hall
      have HA := Lib.hid hall
      clear hall
      go_wp2_with fail
      go_loopw [26] (fun i wr => ∃ k : Nat, k ≤ l.length ∧ i = .int .i64 k ∧ (∀ x ∈ l.take k, x.1 ≤ x.2) ∧ Kp No w wr) (fun i _ => l.length - (intOf i).toNat)
      case atStart => exact ⟨0, by omega, rfl, by simp, hkp⟩
      case round =>
        obtain ⟨m, hm, rfl, hle, hkp2⟩ := hrel
        by_cases hmn : m < l.length
        · obtain ⟨x, hx⟩ : ∃ x, l[m]? = some x := ⟨l[m], List.getElem?_eq_getElem (by omega)⟩
          have c0 := hkp2.cell (HC.out m x hx).1 (fun h => h)
          have c1 := hkp2.cell (HC.out m x hx).2 (fun h => h)
          have hmI : (m : Int) < k := by omega
          have hw1 : IntKind.i64.wrap ((m : Int) + 1) = (m : Int) + 1 := by rw [IntKind.wrap_i64]; omega
          have HL := Lib.hid hle
          clear hle
          by_cases hlt : x.2 < x.1
          · have HE := Lib.hid (show ckE l = 2 from by
              unfold ckE
              rw [if_pos HA.out, if_neg]
              intro h
              have := h x (mem_take hx)
              omega)
            go_wp2_with fail
            go_ret
            exact ⟨ret_i64 HE.out.symm, hkp2.tr (Kp.alloc _ _ _)⟩
          · have hlt' : x.1 ≤ x.2 := by omega
            go_wp2_with fail
            go_roundw
            case rel => exact ⟨m + 1, by omega, by first | rfl | go_num, all_take HL.out hx hlt', hkp2.tr (Kp.alloc _ _ _)⟩
            case measure => simp [intOf]; omega
        · rw [List.take_of_length_le (by omega)] at hle
          have HE := Lib.hid (show ckE l = 0 from by
            unfold ckE
            rw [if_pos HA.out, if_pos hle])
          have hmI : ¬ (m : Int) < k := by omega
          clear hle
          go_wp2_with fail
          go_ret
          exact ⟨ret_i64 HE.out.symm, hkp2⟩
end Go.Proofs.YtamjhpdgclbfgaaGreat

namespace Go.Proofs.YtamjhpdgclbfgaaGreat
open Go.RowKit Go.Kq

/-- What fit gives. -/
def fitE (lo hi : Int) : Int × Int × Int := if fits lo && fits hi then (lo, hi, 0) else (0, 0, 7)
def ieV (r : Int × Int × Int) : Value := .tuple #[ivV r.1 r.2.1, .int .i64 r.2.2]
theorem two_cells {w : World} {B : Nat} {a b : Value} {t : TypeId} (h : w.heap[B]? = some (.cells #[a, b] t (0, 0))) : w.cell? ⟨B, 0, none⟩ = some a ∧ w.cell? ⟨B, 1, none⟩ = some b ∧ w.frozen? ⟨B, 0, none⟩ = false ∧ w.frozen? ⟨B, 1, none⟩ = false := by
  refine ⟨by rw [cell_of_row w B 0 _ _ _ h]; rfl, by rw [cell_of_row w B 1 _ _ _ h]; rfl, ?_, ?_⟩
  · simp [World.frozen?, h]
  · simp [World.frozen?, h]
theorem at_new {w : World} {o : Obj} {n : Nat} (hn : w.heap.size = n) : (w.alloc o).heap[n]? = some o := by
  subst hn
  exact (MapKept.heap_alloc w o).1
theorem ck_le {l : List (Int × Int)} (h : ckE l = 0) : ∀ x ∈ l, x.1 ≤ x.2 := by
  unfold ckE at h
  by_cases h1 : ∀ x ∈ l, fits x.1 = true ∧ fits x.2 = true
  · rw [if_pos h1] at h
    by_cases h2 : ∀ x ∈ l, x.1 ≤ x.2
    · exact h2
    · rw [if_neg h2] at h
      omega
  · rw [if_neg h1] at h
    omega
theorem kp_set2 {w w1 : World} {B : Nat} {x y : Value} (h : Kp No w w1) (hB : w.heap.size ≤ B) : Kp No w ((w1.setCell ⟨B, 0, none⟩ x).setCell ⟨B, 1, none⟩ y) := by
  have k1 := Kp.setCell (Kq.One B) w1 ⟨B, 0, none⟩ x (fun _ => rfl)
  have k2 := Kp.setCell (Kq.One B) (w1.setCell ⟨B, 0, none⟩ x) ⟨B, 1, none⟩ y (fun _ => rfl)
  exact h.trans (k1.tr k2) (fun k hk t => by unfold Kq.One at t; omega)
/-- What Add gives. -/
def addE (a b : Int × Int) : Int × Int × Int := if ckE [a, b] = 0 then fitE (a.1 + b.1) (a.2 + b.2) else (0, 0, ckE [a, b])
theorem ck_fits {l : List (Int × Int)} (h : ckE l = 0) : ∀ x ∈ l, fits x.1 = true ∧ fits x.2 = true := by
  unfold ckE at h
  by_cases h1 : ∀ x ∈ l, fits x.1 = true ∧ fits x.2 = true
  · exact h1
  · rw [if_neg h1] at h
    omega
theorem fits_bounds {q : Int} (h : fits q = true) : -4611686018427387904 ≤ q ∧ q ≤ 4611686018427387904 := by
  unfold fits M62 at h
  simpa using h
end Go.Proofs.YtamjhpdgclbfgaaGreat
