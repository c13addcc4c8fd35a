/- Chapter 24: the program's order and Order. -/
import Derived.Test.YtakgcnjpmpcekaaGreatXFlAM
import Derived.Test.YtakgcnjpmpcekaaGreatXLibMakeM
namespace Go.Proofs.YtakgcnjpmpcekaaGreat
open Go.RowKit Go.Kq

def natV (n : Nat) : Value := .int .i64 n
theorem natV_int (S : List Nat) : (S.map (fun i : Nat => (i : Int))).map (Value.int .i64) = S.map natV := by rw [List.map_map]; rfl
/-- A row of the call's own, of small numbers. -/
abbrev OwN (w : World) (base : Nat) (v : Value) (S : List Nat) : Prop := w.ownsRow base 3 1 v S.length (S.map natV)
theorem ow_in {w : World} {base : Nat} {v : Value} {S : List Nat} (h : OwN w base v S) : OwI w base v (S.map fun i : Nat => (i : Int)) := by
  unfold OwI
  rw [List.length_map, natV_int]
  exact h
theorem infoInt : (Tryz.prog.info? 3).map (fun i => (i.zero, i.size, i.bytes)) = some (some (.int .i64 0), 1, 8) := by kernel_rfl
/-- A row that was made. -/
def zrN (n : Nat) : Array Value := (List.replicate n (natV 0)).toArray
theorem make_ints (m : Nat) (hm : m ≤ 100000) (w : World) : (Instr.makeSlice 36 (.int .i64 (m : Nat)) (.int .i64 (m : Nat))).run Tryz.prog w = .ok (.slice (some ⟨w.heap.size, 0, none⟩) m m) (w.alloc (.cells (zrN m) 3)) := by
  obtain ⟨i0, hi, hz0, hz1, hz2⟩ := info_parts infoInt
  have := run_make_flat w (fun x : Nat => [natV x]) 0 _ _ i0 _ 1 8 m Tryz.underlying36 hi hz0 hz1 hz2 (by decide) rfl rfl (by omega) (by omega)
  rw [this]
  unfold zrN
  rw [List.flatMap_replicate]
  simp
theorem mid_lo {α : Type} (a b : List α) (z v : α) (m n : Nat) (hn : n = a.length) : (a ++ List.replicate (m + 1) z ++ b).set n v = (a ++ [v]) ++ List.replicate m z ++ b := by
  subst hn
  rw [List.append_assoc, List.set_append_right _ _ (Nat.le_refl _), Nat.sub_self, List.replicate_succ, List.cons_append, List.set_cons_zero, List.append_assoc, List.append_assoc]
  rfl
theorem mid_hi {α : Type} (a b : List α) (z v : α) (m n : Nat) (hn : n = a.length + m) : (a ++ List.replicate (m + 1) z ++ b).set n v = a ++ List.replicate m z ++ (v :: b) := by
  subst hn
  rw [List.append_assoc, List.set_append_right _ _ (by omega), List.replicate_succ', List.append_assoc, List.set_append_right _ _ (by simp), List.append_assoc]
  congr 2
  simp
/-- The row when i numbers are set. -/
def midN (n : Nat) (k : Int) (i : Nat) : List Nat := (setN n k i).1 ++ List.replicate (n - i) 0 ++ (setN n k i).2
theorem mid_zero (n : Nat) (k : Int) : midN n k 0 = List.replicate n 0 := by
  unfold midN setN
  simp
theorem mid_end (n : Nat) (k : Int) : midN n k n = ordN n k := by
  unfold midN
  rw [Nat.sub_self, List.replicate_zero, List.append_nil, setN_end]
theorem mid_len (n : Nat) (k : Int) (i : Nat) (h : i ≤ n) : (midN n k i).length = n := by
  have := setN_len n k i
  unfold midN
  simp
  omega
/-- The free ends. -/
def lowN (n : Nat) (k : Int) (i : Nat) : Nat := if k = 1 ∨ k = 2 then 0 else (setN n k i).1.length
def higN (n : Nat) (k : Int) (i : Nat) : Int := if k = 1 ∨ k = 2 then (n : Int) - 1 else (n : Int) - 1 - (setN n k i).2.length
theorem set_lo (n : Nat) (k : Int) (i v : Nat) (hi : i < n) (hs : stepN n k (setN n k i) i = ((setN n k i).1 ++ [v], (setN n k i).2)) : (midN n k i).set (setN n k i).1.length v = midN n k (i + 1) := by
  unfold midN
  rw [setN_succ, hs, show n - i = (n - (i + 1)) + 1 by omega, mid_lo _ _ _ _ _ _ rfl]
theorem set_hi (n : Nat) (k : Int) (i v : Nat) (hi : i < n) (hs : stepN n k (setN n k i) i = ((setN n k i).1, v :: (setN n k i).2)) : (midN n k i).set (n - 1 - (setN n k i).2.length) v = midN n k (i + 1) := by
  have hl := setN_len n k i
  unfold midN
  rw [setN_succ, hs, show n - i = (n - (i + 1)) + 1 by omega, mid_hi _ _ _ _ _ _ (by omega)]
theorem set_map (S : List Nat) (i v : Nat) : (S.map natV).set i (.int .i64 (v : Nat)) = (S.set i v).map natV := by
  rw [List.map_set]
  rfl
theorem sta_12 (n : Nat) (k : Int) (right : Bool) (h : k = 1 ∨ k = 2) : staN n k right = ordN n k := by
  unfold staN
  rcases h with rfl | rfl <;> cases right <;> rfl
theorem own_mid {w wr : World} {n g : Nat} {k : Int} {i p v : Nat} (ho : wr.ownsRow w.heap.size 3 1 (.slice (some ⟨g, 0, none⟩) n n) n ((midN n k i).map natV)) (hk : Kp No w wr) (hg : w.heap.size ≤ g) (hset : (midN n k i).set p v = midN n k (i + 1)) :
    (wr.setCell ⟨g, p, none⟩ (.int .i64 (v : Nat))).ownsRow w.heap.size 3 1 (.slice (some ⟨g, 0, none⟩) n n) n ((midN n k (i + 1)).map natV) ∧ Kp No w (wr.setCell ⟨g, p, none⟩ (.int .i64 (v : Nat))) := by
  have h1 := own_set ho p (.int .i64 (v : Nat))
  rw [set_map, hset] at h1
  exact ⟨h1, hk.trans (kp_setOne wr g p _) fun k hk e => by have e : k = g := e; omega⟩
theorem mid_cell {w wr : World} {n g : Nat} {k : Int} {i p : Nat} (ho : wr.ownsRow w.heap.size 3 1 (.slice (some ⟨g, 0, none⟩) n n) n ((midN n k i).map natV)) (hi : i ≤ n) (hp : p < n) : ∃ u, wr.cell? ⟨g, p, none⟩ = some (.int .i64 (u : Nat)) := by
  have hl := mid_len n k i hi
  exact ⟨(midN n k i)[p]'(by omega), own_cell ho (by rw [List.getElem?_map, List.getElem?_eq_getElem (by omega)]; rfl)⟩
set_option maxHeartbeats 4000000 in
theorem order_1 (n : Nat) (right : Bool) (w : World) (hn : n ≤ 60) : Calls Tryz.prog 25 #[.int .i64 (n : Nat), .int .i64 1, .bool right] w fun e w' => ∃ g, e = .returned (.slice (some ⟨g, 0, none⟩) n n) ∧ OwN w' w.heap.size (.slice (some ⟨g, 0, none⟩) n n) (staN n 1 right) ∧ Kp No w w' := by
  have hmk := make_ints n (by omega)
  have HE := Lib.hid (mid_end n 1)
  have HML := Lib.hid (fun i h => mid_len n 1 i h)
  go_enter Tryz.func25, Tryz.ntmps25
  go_wp2_with fail
  clear hmk
  obtain ⟨g, hg⟩ : ∃ g, g = w.heap.size := ⟨_, rfl⟩
  rw [← hg]
  have HG := Lib.hid hg
  clear hg
  go_loopw [8, 9, 17] (fun x y i wr => ∃ k : Nat, k ≤ n ∧ i = .int .i64 k ∧ x = .int .i64 0 ∧ y = .int .i64 ((n : Int) - 1) ∧ wr.ownsRow w.heap.size 3 1 (.slice (some ⟨g, 0, none⟩) n n) n ((midN n 1 k).map natV) ∧ Kp No w wr) (fun _ _ i _ => n - (intOf i).toNat)
  case atStart =>
    refine ⟨0, by omega, rfl, rfl, rfl, ?_, Kp.alloc _ _ _⟩
    rw [mid_zero, HG.out]
    have h := own_made w (e := 3) (n := n) (s := 1) (base := w.heap.size) (xs := List.replicate n (natV 0)) (by simp) (Nat.le_refl _) (by unfold maxLen; omega)
    rw [List.map_replicate]
    exact h
  case round =>
    obtain ⟨k, hk, rfl, rfl, rfl, hown, hkp⟩ := hrel
    by_cases hlt : k < n
    · have hlen := setN_len n 1 k
      have hq : setN n 1 k = (List.range k, []) := by rw [setN_at n 1 k (by omega)]; rfl
      have hst := set_lo n 1 k k hlt rfl
      rw [hq, List.length_range] at hst
      obtain ⟨uc, hc⟩ := mid_cell (p := k) hown (by omega) (by omega)
      have hf := own_free hown (k)
      have O := Lib.hid (own_mid (p := k) (v := k) hown hkp (by rw [HG.out]; exact Nat.le_refl _) (by rw [hst]))
      clear hown hkp hlen hq hst
      go_wp2
      go_roundw
      case rel => exact ⟨k + 1, by omega, by go_num, rfl, rfl, O.out.1, O.out.2⟩
      case measure => simp [intOf]; omega
    · obtain rfl : k = n := by omega
      rw [HE.out] at hown
      have HK := Lib.hid hkp
      clear hkp
      have HO : Hid (OwN wr w.heap.size (.slice (some ⟨g, 0, none⟩) k k) (staN k 1 right)) := Lib.hid (by unfold OwN; rw [sta_12 k 1 right (by omega), ordN_len]; exact hown)
      clear hown
      cases right
      all_goals
        go_wp2
        go_ret
        exact ⟨g, rfl, HO.out, HK.out⟩
set_option maxHeartbeats 4000000 in
theorem order_2 (n : Nat) (right : Bool) (w : World) (hn : n ≤ 60) : Calls Tryz.prog 25 #[.int .i64 (n : Nat), .int .i64 2, .bool right] w fun e w' => ∃ g, e = .returned (.slice (some ⟨g, 0, none⟩) n n) ∧ OwN w' w.heap.size (.slice (some ⟨g, 0, none⟩) n n) (staN n 2 right) ∧ Kp No w w' := by
  have hmk := make_ints n (by omega)
  have HE := Lib.hid (mid_end n 2)
  have HML := Lib.hid (fun i h => mid_len n 2 i h)
  go_enter Tryz.func25, Tryz.ntmps25
  go_wp2_with fail
  clear hmk
  obtain ⟨g, hg⟩ : ∃ g, g = w.heap.size := ⟨_, rfl⟩
  rw [← hg]
  have HG := Lib.hid hg
  clear hg
  go_loopw [8, 9, 17] (fun x y i wr => ∃ k : Nat, k ≤ n ∧ i = .int .i64 k ∧ x = .int .i64 0 ∧ y = .int .i64 ((n : Int) - 1) ∧ wr.ownsRow w.heap.size 3 1 (.slice (some ⟨g, 0, none⟩) n n) n ((midN n 2 k).map natV) ∧ Kp No w wr) (fun _ _ i _ => n - (intOf i).toNat)
  case atStart =>
    refine ⟨0, by omega, rfl, rfl, rfl, ?_, Kp.alloc _ _ _⟩
    rw [mid_zero, HG.out]
    have h := own_made w (e := 3) (n := n) (s := 1) (base := w.heap.size) (xs := List.replicate n (natV 0)) (by simp) (Nat.le_refl _) (by unfold maxLen; omega)
    rw [List.map_replicate]
    exact h
  case round =>
    obtain ⟨k, hk, rfl, rfl, rfl, hown, hkp⟩ := hrel
    by_cases hlt : k < n
    · have hlen := setN_len n 2 k
      have hq : setN n 2 k = ([], (List.range k).reverse) := by rw [setN_at n 2 k (by omega)]; rfl
      have hst := set_hi n 2 k k hlt rfl
      rw [hq, List.length_reverse, List.length_range] at hst
      obtain ⟨uc, hc⟩ := mid_cell (p := n - 1 - k) hown (by omega) (by omega)
      have hf := own_free hown (n - 1 - k)
      have O := Lib.hid (own_mid (p := n - 1 - k) (v := k) hown hkp (by rw [HG.out]; exact Nat.le_refl _) (by rw [hst]))
      have hi1 : (n : Int) - 1 - k = ((n - 1 - k : Nat) : Int) := by omega
      clear hown hkp hlen hq hst
      go_wp2
      go_roundw
      case rel => exact ⟨k + 1, by omega, by go_num, rfl, rfl, O.out.1, O.out.2⟩
      case measure => simp [intOf]; omega
    · obtain rfl : k = n := by omega
      rw [HE.out] at hown
      have HK := Lib.hid hkp
      clear hkp
      have HO : Hid (OwN wr w.heap.size (.slice (some ⟨g, 0, none⟩) k k) (staN k 2 right)) := Lib.hid (by unfold OwN; rw [sta_12 k 2 right (by omega), ordN_len]; exact hown)
      clear hown
      cases right
      all_goals
        go_wp2
        go_ret
        exact ⟨g, rfl, HO.out, HK.out⟩
set_option maxHeartbeats 4000000 in
theorem order_3 (n : Nat) (right : Bool) (w : World) (hn : n ≤ 60) : Calls Tryz.prog 25 #[.int .i64 (n : Nat), .int .i64 3, .bool right] w fun e w' => ∃ g, e = .returned (.slice (some ⟨g, 0, none⟩) n n) ∧ OwN w' w.heap.size (.slice (some ⟨g, 0, none⟩) n n) (staN n 3 right) ∧ Kp No w w' := by
  have hmk := make_ints n (by omega)
  have HE := Lib.hid (mid_end n 3)
  have HML := Lib.hid (fun i h => mid_len n 3 i h)
  go_enter Tryz.func25, Tryz.ntmps25
  go_wp2_with fail
  clear hmk
  obtain ⟨g, hg⟩ : ∃ g, g = w.heap.size := ⟨_, rfl⟩
  rw [← hg]
  have HG := Lib.hid hg
  clear hg
  go_loopw [8, 9, 17] (fun x y i wr => ∃ k : Nat, k ≤ n ∧ i = .int .i64 k ∧ x = .int .i64 (lowN n 3 k : Nat) ∧ y = .int .i64 (higN n 3 k) ∧ wr.ownsRow w.heap.size 3 1 (.slice (some ⟨g, 0, none⟩) n n) n ((midN n 3 k).map natV) ∧ Kp No w wr) (fun _ _ i _ => n - (intOf i).toNat)
  case atStart =>
    refine ⟨0, by omega, rfl, by unfold lowN setN; rfl, by unfold higN setN; simp, ?_, Kp.alloc _ _ _⟩
    rw [mid_zero, HG.out]
    have h := own_made w (e := 3) (n := n) (s := 1) (base := w.heap.size) (xs := List.replicate n (natV 0)) (by simp) (Nat.le_refl _) (by unfold maxLen; omega)
    rw [List.map_replicate]
    exact h
  case round =>
    obtain ⟨k, hk, rfl, rfl, rfl, hown, hkp⟩ := hrel
    by_cases hlt : k < n
    · have hlen := setN_len n 3 k
      obtain ⟨a, ha⟩ : ∃ a, a = (setN n 3 k).1.length := ⟨_, rfl⟩
      obtain ⟨b, hb⟩ : ∃ b, b = (setN n 3 k).2.length := ⟨_, rfl⟩
      have hab : a + b = k := by omega
      have hlo : lowN n 3 k = a := by rw [ha]; rfl
      have hhi : higN n 3 k = (n : Int) - 1 - (b : Nat) := by rw [hb]; rfl
      rw [hlo, hhi]
      obtain ⟨m, hm⟩ : ∃ m, m = n - 1 - k := ⟨_, rfl⟩
      have hk1 : (n : Int) - 1 - k = (m : Int) := by omega
      by_cases hp : m % 2 = 0
      · have hpe := hp
        have hs4 : stepN n 3 (setN n 3 k) k = ((setN n 3 k).1, m :: (setN n 3 k).2) := by unfold stepN; rw [← hm]; simp [hpe]
        have hst := set_hi n 3 k m hlt hs4
        rw [← hb] at hst
        obtain ⟨uc, hc⟩ := mid_cell (p := (n - 1 - b)) hown (by omega) (by omega)
        have hf := own_free hown ((n - 1 - b))
        have O := Lib.hid (own_mid (p := (n - 1 - b)) (v := m) hown hkp (by rw [HG.out]; exact Nat.le_refl _) (by rw [hst]))
        have hlo2 : lowN n 3 (k + 1) = a := by show (setN n 3 (k + 1)).1.length = _; rw [setN_succ, hs4, ha]
        have hhi2 : higN n 3 (k + 1) = (n : Int) - 1 - ((b + 1 : Nat) : Int) := by show (n : Int) - 1 - (setN n 3 (k + 1)).2.length = _; rw [setN_succ, hs4, hb]; simp
        have HL2 := Lib.hid hlo2
        have HH2 := Lib.hid hhi2
        have hrem : (m : Int) % 2 = 0 := by omega
        have hi1 : (n : Int) - 1 - (b : Nat) = ((n - 1 - b : Nat) : Int) := by omega
        have hmn : m < n := by omega
        have hak : a ≤ k := by omega
        have hbk : b ≤ k := by omega
        clear hm hown hkp hlen hst hs4 hlo2 hhi2 hlo hhi hp hpe hab ha hb
        go_wp2
        go_roundw
        case rel => exact ⟨k + 1, by omega, by go_num, (by rw [HL2.out]; try go_num), (by rw [HH2.out]; try go_num), O.out.1, O.out.2⟩
        case measure => simp [intOf]; omega
      · have hpe : m % 2 = 1 := by omega
        have hs4 : stepN n 3 (setN n 3 k) k = ((setN n 3 k).1 ++ [m], (setN n 3 k).2) := by unfold stepN; rw [← hm]; simp [hpe]
        have hst := set_lo n 3 k m hlt hs4
        rw [← ha] at hst
        obtain ⟨uc, hc⟩ := mid_cell (p := a) hown (by omega) (by omega)
        have hf := own_free hown (a)
        have O := Lib.hid (own_mid (p := a) (v := m) hown hkp (by rw [HG.out]; exact Nat.le_refl _) (by rw [hst]))
        have hlo2 : lowN n 3 (k + 1) = a + 1 := by show (setN n 3 (k + 1)).1.length = _; rw [setN_succ, hs4, ha]; simp
        have hhi2 : higN n 3 (k + 1) = (n : Int) - 1 - (b : Nat) := by show (n : Int) - 1 - (setN n 3 (k + 1)).2.length = _; rw [setN_succ, hs4, hb]
        have HL2 := Lib.hid hlo2
        have HH2 := Lib.hid hhi2
        have hrem : (m : Int) % 2 = 1 := by omega
        have hmn : m < n := by omega
        have hak : a ≤ k := by omega
        have hbk : b ≤ k := by omega
        clear hm hown hkp hlen hst hs4 hlo2 hhi2 hlo hhi hp hpe hab ha hb
        go_wp2
        go_roundw
        case rel => exact ⟨k + 1, by omega, by go_num, (by rw [HL2.out]; try go_num), (by rw [HH2.out]; try go_num), O.out.1, O.out.2⟩
        case measure => simp [intOf]; omega
    · obtain rfl : k = n := by omega
      rw [HE.out] at hown
      have HK := Lib.hid hkp
      clear hkp
      have HO := Lib.hid hown
      clear hown
      cases right
      · go_wp2
        go_ret
        exact ⟨g, rfl, by unfold OwN; rw [show staN k 3 false = ordN k 3 from rfl, ordN_len]; exact HO.out, HK.out⟩
      · go_wp2_with fail
        have hrow : OwN wr w.heap.size (.slice (some ⟨g, 0, none⟩) k k) (ordN k 3) := by unfold OwN; rw [ordN_len]; exact HO.out
        with_reducible refine (rev_any w.heap.size (some ⟨g, 0, none⟩) k k ((ordN k 3).map fun i : Nat => (i : Int)) wr (by rw [List.length_map, ordN_len]) (by omega) (ow_in hrow)).mono ?_
        rintro e w2 ⟨rfl, ho2, k2⟩
        have H2 := Lib.hid ho2
        have HK2 := Lib.hid (HK.out.trans k2 fun q hq e => by have e : some g = some q := e; injection e with e; have := HG.out; omega)
        clear ho2 k2 hrow
        go_wp2_with fail
        go_ret
        refine ⟨g, rfl, ?_, HK2.out⟩
        have h := H2.out
        rw [← List.map_reverse] at h
        unfold OwI at h
        rw [List.length_map, natV_int] at h
        exact h
set_option maxHeartbeats 4000000 in
theorem order_4 (n : Nat) (right : Bool) (w : World) (hn : n ≤ 60) : Calls Tryz.prog 25 #[.int .i64 (n : Nat), .int .i64 4, .bool right] w fun e w' => ∃ g, e = .returned (.slice (some ⟨g, 0, none⟩) n n) ∧ OwN w' w.heap.size (.slice (some ⟨g, 0, none⟩) n n) (staN n 4 right) ∧ Kp No w w' := by
  have hmk := make_ints n (by omega)
  have HE := Lib.hid (mid_end n 4)
  have HML := Lib.hid (fun i h => mid_len n 4 i h)
  go_enter Tryz.func25, Tryz.ntmps25
  go_wp2_with fail
  clear hmk
  obtain ⟨g, hg⟩ : ∃ g, g = w.heap.size := ⟨_, rfl⟩
  rw [← hg]
  have HG := Lib.hid hg
  clear hg
  go_loopw [8, 9, 17] (fun x y i wr => ∃ k : Nat, k ≤ n ∧ i = .int .i64 k ∧ x = .int .i64 (lowN n 4 k : Nat) ∧ y = .int .i64 (higN n 4 k) ∧ wr.ownsRow w.heap.size 3 1 (.slice (some ⟨g, 0, none⟩) n n) n ((midN n 4 k).map natV) ∧ Kp No w wr) (fun _ _ i _ => n - (intOf i).toNat)
  case atStart =>
    refine ⟨0, by omega, rfl, by unfold lowN setN; rfl, by unfold higN setN; simp, ?_, Kp.alloc _ _ _⟩
    rw [mid_zero, HG.out]
    have h := own_made w (e := 3) (n := n) (s := 1) (base := w.heap.size) (xs := List.replicate n (natV 0)) (by simp) (Nat.le_refl _) (by unfold maxLen; omega)
    rw [List.map_replicate]
    exact h
  case round =>
    obtain ⟨k, hk, rfl, rfl, rfl, hown, hkp⟩ := hrel
    by_cases hlt : k < n
    · have hlen := setN_len n 4 k
      obtain ⟨a, ha⟩ : ∃ a, a = (setN n 4 k).1.length := ⟨_, rfl⟩
      obtain ⟨b, hb⟩ : ∃ b, b = (setN n 4 k).2.length := ⟨_, rfl⟩
      have hab : a + b = k := by omega
      have hlo : lowN n 4 k = a := by rw [ha]; rfl
      have hhi : higN n 4 k = (n : Int) - 1 - (b : Nat) := by rw [hb]; rfl
      rw [hlo, hhi]
      by_cases hp : k % 2 = 0
      · have hpe := hp
        have hs4 : stepN n 4 (setN n 4 k) k = ((setN n 4 k).1 ++ [k], (setN n 4 k).2) := by unfold stepN; simp [hpe]
        have hst := set_lo n 4 k k hlt hs4
        rw [← ha] at hst
        obtain ⟨uc, hc⟩ := mid_cell (p := a) hown (by omega) (by omega)
        have hf := own_free hown (a)
        have O := Lib.hid (own_mid (p := a) (v := k) hown hkp (by rw [HG.out]; exact Nat.le_refl _) (by rw [hst]))
        have hlo2 : lowN n 4 (k + 1) = a + 1 := by show (setN n 4 (k + 1)).1.length = _; rw [setN_succ, hs4, ha]; simp
        have hhi2 : higN n 4 (k + 1) = (n : Int) - 1 - (b : Nat) := by show (n : Int) - 1 - (setN n 4 (k + 1)).2.length = _; rw [setN_succ, hs4, hb]
        have HL2 := Lib.hid hlo2
        have HH2 := Lib.hid hhi2
        have hrem : (k : Int) % 2 = 0 := by omega
        have hak : a ≤ k := by omega
        have hbk : b ≤ k := by omega
        clear hown hkp hlen hst hs4 hlo2 hhi2 hlo hhi hp hpe hab ha hb
        go_wp2
        go_roundw
        case rel => exact ⟨k + 1, by omega, by go_num, (by rw [HL2.out]; try go_num), (by rw [HH2.out]; try go_num), O.out.1, O.out.2⟩
        case measure => simp [intOf]; omega
      · have hpe : k % 2 = 1 := by omega
        have hs4 : stepN n 4 (setN n 4 k) k = ((setN n 4 k).1, k :: (setN n 4 k).2) := by unfold stepN; simp [hpe]
        have hst := set_hi n 4 k k hlt hs4
        rw [← hb] at hst
        obtain ⟨uc, hc⟩ := mid_cell (p := (n - 1 - b)) hown (by omega) (by omega)
        have hf := own_free hown ((n - 1 - b))
        have O := Lib.hid (own_mid (p := (n - 1 - b)) (v := k) hown hkp (by rw [HG.out]; exact Nat.le_refl _) (by rw [hst]))
        have hlo2 : lowN n 4 (k + 1) = a := by show (setN n 4 (k + 1)).1.length = _; rw [setN_succ, hs4, ha]
        have hhi2 : higN n 4 (k + 1) = (n : Int) - 1 - ((b + 1 : Nat) : Int) := by show (n : Int) - 1 - (setN n 4 (k + 1)).2.length = _; rw [setN_succ, hs4, hb]; simp
        have HL2 := Lib.hid hlo2
        have HH2 := Lib.hid hhi2
        have hrem : (k : Int) % 2 = 1 := by omega
        have hi1 : (n : Int) - 1 - (b : Nat) = ((n - 1 - b : Nat) : Int) := by omega
        have hak : a ≤ k := by omega
        have hbk : b ≤ k := by omega
        clear hown hkp hlen hst hs4 hlo2 hhi2 hlo hhi hp hpe hab ha hb
        go_wp2
        go_roundw
        case rel => exact ⟨k + 1, by omega, by go_num, (by rw [HL2.out]; try go_num), (by rw [HH2.out]; try go_num), O.out.1, O.out.2⟩
        case measure => simp [intOf]; omega
    · obtain rfl : k = n := by omega
      rw [HE.out] at hown
      have HK := Lib.hid hkp
      clear hkp
      have HO := Lib.hid hown
      clear hown
      cases right
      · go_wp2
        go_ret
        exact ⟨g, rfl, by unfold OwN; rw [show staN k 4 false = ordN k 4 from rfl, ordN_len]; exact HO.out, HK.out⟩
      · go_wp2_with fail
        have hrow : OwN wr w.heap.size (.slice (some ⟨g, 0, none⟩) k k) (ordN k 4) := by unfold OwN; rw [ordN_len]; exact HO.out
        with_reducible refine (rev_any w.heap.size (some ⟨g, 0, none⟩) k k ((ordN k 4).map fun i : Nat => (i : Int)) wr (by rw [List.length_map, ordN_len]) (by omega) (ow_in hrow)).mono ?_
        rintro e w2 ⟨rfl, ho2, k2⟩
        have H2 := Lib.hid ho2
        have HK2 := Lib.hid (HK.out.trans k2 fun q hq e => by have e : some g = some q := e; injection e with e; have := HG.out; omega)
        clear ho2 k2 hrow
        go_wp2_with fail
        go_ret
        refine ⟨g, rfl, ?_, HK2.out⟩
        have h := H2.out
        rw [← List.map_reverse] at h
        unfold OwI at h
        rw [List.length_map, natV_int] at h
        exact h
theorem order_any (n : Nat) (k : Int) (right : Bool) (w : World) (hn : n ≤ 60) (hk : 1 ≤ k ∧ k ≤ 4) : Calls Tryz.prog 25 #[.int .i64 (n : Nat), .int .i64 k, .bool right] w fun e w' => ∃ g, e = .returned (.slice (some ⟨g, 0, none⟩) n n) ∧ OwN w' w.heap.size (.slice (some ⟨g, 0, none⟩) n n) (staN n k right) ∧ Kp No w w' := by
  obtain rfl | rfl | rfl | rfl : k = 1 ∨ k = 2 ∨ k = 3 ∨ k = 4 := by omega
  · exact order_1 n right w hn
  · exact order_2 n right w hn
  · exact order_3 n right w hn
  · exact order_4 n right w hn
def ordB (n k : Int) : Bool := decide (n < 0) || decide (60 < n) || decide (k < 1) || decide (4 < k)
theorem ordB_ok {n k : Int} (h : ordB n k = false) : 0 ≤ n ∧ n ≤ 60 ∧ 1 ≤ k ∧ k ≤ 4 := by
  unfold ordB at h
  simp only [Bool.or_eq_false_iff, decide_eq_false_iff_not] at h
  omega
theorem Order_bad (n k : Int) (right : Bool) (w : World) (h : ordB n k = true) : Calls Tryz.prog 11 #[.int .i64 n, .int .i64 k, .bool right] w fun e w' => e = .returned (.tuple #[.slice none 0 0, .int .i64 2]) ∧ w' = w := by
  unfold ordB at h
  simp only [Bool.or_eq_true, decide_eq_true_eq] at h
  by_cases h1 : n < 0
  · clear h
    go_enter Tryz.func11, Tryz.ntmps11
    go_wp2
    go_ret2
    exact ⟨rfl, rfl⟩
  · by_cases h2 : 60 < n
    · clear h
      go_enter Tryz.func11, Tryz.ntmps11
      go_wp2
      go_ret2
      exact ⟨rfl, rfl⟩
    · by_cases h3 : k < 1
      · clear h
        go_enter Tryz.func11, Tryz.ntmps11
        go_wp2
        go_ret2
        exact ⟨rfl, rfl⟩
      · have h4 : 4 < k := by omega
        clear h
        go_enter Tryz.func11, Tryz.ntmps11
        go_wp2
        go_ret2
        exact ⟨rfl, rfl⟩
theorem Order_ok (n : Nat) (k : Int) (right : Bool) (w : World) (hn : n ≤ 60) (hk : 1 ≤ k ∧ k ≤ 4) : Calls Tryz.prog 11 #[.int .i64 (n : Nat), .int .i64 k, .bool right] w fun e w' => ∃ g, e = .returned (.tuple #[.slice (some ⟨g, 0, none⟩) n n, .int .i64 0]) ∧ OwN w' w.heap.size (.slice (some ⟨g, 0, none⟩) n n) (staN n k right) ∧ Kp No w w' := by
  have h1 := hk.1
  have h2 := hk.2
  have OR := Lib.hid (fun w0 => order_any n k right w0 hn hk)
  clear hk
  go_enter Tryz.func11, Tryz.ntmps11
  go_wp2_with fail
  with_reducible refine (OR.out _).mono ?_
  rintro e w1 ⟨g, rfl, ho, hk⟩
  have HO := Lib.hid ho
  clear ho
  go_wp2_with fail
  go_ret2
  exact ⟨g, rfl, HO.out, hk⟩
end Go.Proofs.YtakgcnjpmpcekaaGreat
