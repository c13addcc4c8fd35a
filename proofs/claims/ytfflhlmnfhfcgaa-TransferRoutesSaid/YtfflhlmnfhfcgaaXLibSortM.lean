/- Chapter 33: the walk of the reference's differences. · A row that the call owns, handed to the library's sort and taken back: elements of one cell or more. No program in sight. -/
import Derived.Shelf.SlSortCmp.NoneTotal
import Derived.Test.YtfflhlmnfhfcgaaXRfAdd
import Derived.Test.YtfflhlmnfhfcgaaXLibRow
namespace Go.Proofs.Ytfflhlmnfhfcgaa
open Go.RowKit Go.Kq

theorem addL_snoc (l vs : List Vc) (v : Vc) : addL l (vs ++ [v]) = addC v (addL l vs) := by simp [addL]
theorem addC_len (c : Vc) : ∀ l, (addC c l).length ≤ l.length + 1
  | [] => by simp [addC]
  | x :: l => by
    have := addC_len c l
    unfold addC
    split
    · simp; omega
    · split <;> simp
theorem addL_len : ∀ (vs l : List Vc), (addL l vs).length ≤ l.length + vs.length
  | [], l => by simp [addL]
  | v :: vs, l => by
    have h1 := addL_len vs (addC v l)
    have h2 := addC_len v l
    simp only [addL, List.foldl_cons, List.length_cons] at h1 ⊢
    omega
def Bd (M : Int) (l : List Vc) : Prop := ∀ v ∈ l, -M ≤ v.q ∧ v.q ≤ M
theorem addC_bd {M : Int} {c : Vc} (hM : 0 ≤ M) (hc : -100 ≤ c.q ∧ c.q ≤ 100) : ∀ l, Bd M l → Bd (M + 100) (addC c l)
  | [], _ => fun v hv => by
    simp [addC] at hv
    rw [hv]
    omega
  | x :: l, h => by
    have hx := h x (by simp)
    have hl : Bd M l := fun v hv => h v (by simp [hv])
    have ih := addC_bd hM hc l hl
    unfold addC
    split
    · intro v hv
      rcases List.mem_cons.1 hv with rfl | hv
      · omega
      · exact ih v hv
    · split
      · intro v hv
        rcases List.mem_cons.1 hv with rfl | hv
        · omega
        · have := h v hv
          omega
      · intro v hv
        rcases List.mem_cons.1 hv with rfl | hv
        · show -(M + 100) ≤ x.q + c.q ∧ x.q + c.q ≤ M + 100
          omega
        · have := hl v hv
          omega
theorem addL_bd : ∀ (vs l : List Vc) (M : Int), 0 ≤ M → Bd M l → (∀ v ∈ vs, -100 ≤ v.q ∧ v.q ≤ 100) → Bd (M + 100 * vs.length) (addL l vs)
  | [], l, M, _, h, _ => by simpa [addL] using h
  | v :: vs, l, M, hM, h, hv => by
    have h1 := addL_bd vs (addC v l) (M + 100) (by omega) (addC_bd hM (hv v (by simp)) l h) (fun u hu => hv u (by simp [hu]))
    have e : M + 100 * ((v :: vs).length : Nat) = M + 100 + 100 * (vs.length : Nat) := by simp; omega
    rw [e]
    exact h1
theorem take_map_snoc (ys : List Vc) (k : Nat) (v : Vc) (h : ys[k]? = some v) : (ys.take (k + 1)).map neg = (ys.take k).map neg ++ [neg v] := by
  rw [List.take_add_one, h]
  simp

set_option maxHeartbeats 2000000 in
theorem dif_any (A B : Option Addr) (n m ca cb : Nat) (xs ys : List Vc) (w : World) (hx : RdV w A n xs) (hy : RdV w B m ys) (hn : n ≤ 24) (hm : m ≤ 24) (sx : Sane xs) (sy : Sane ys) :
    Calls Try.prog 36 #[.slice A n ca, .slice B m cb] w fun e w' => ∃ v, e = .returned v ∧ w'.ownsRow w.heap.size 59 4 v (dif xs ys).length (flat (dif xs ys)) ∧ Kp No w w' := by
  have hxl := hx.1
  have hyl := hy.1
  have SX := Lib.hid sx
  have SY := Lib.hid sy
  clear sx sy
  go_enter Try.func36, Try.ntmps36
  go_wp2_with fail
  go_loopw [5, 6] (fun s i wr => ∃ k : Nat, k ≤ n ∧ i = .int .i64 k ∧ wr.ownsRow w.heap.size 59 4 s (addL [] (xs.take k)).length (flat (addL [] (xs.take k))) ∧ Kp No w wr) (fun s i _ => n - (intOf i).toNat)
  case atStart => exact ⟨0, by omega, rfl, ⟨rfl, .inl ⟨rfl, rfl⟩⟩, Kp.refl _ _⟩
  case round =>
    obtain ⟨k, hk, rfl, hown, hkp⟩ := hrel
    obtain ⟨a, cp, rfl, _, _, _⟩ := own_form hown
    have HO := Lib.hid hown
    clear hown
    by_cases hlt : k < n
    · obtain ⟨v, hv⟩ : ∃ v, xs[k]? = some v := ⟨_, List.getElem?_eq_getElem (by omega)⟩
      obtain ⟨b, o, rfl, hb, c0, c1, c2, c3⟩ := (hx.no hkp).2 k v hv
      have hvq := SX.out v (List.mem_of_getElem? hv)
      have hl1 := addL_len (xs.take k) []
      have hb1 := addL_bd (xs.take k) [] 0 (by omega) (fun v hv => by cases hv) (fun u hu => by have := SX.out u (List.mem_of_mem_take hu); omega)
      rw [List.length_take] at hb1 hl1
      have hsn : addL [] (xs.take (k + 1)) = addC v (addL [] (xs.take k)) := by rw [List.take_add_one, hv]; exact addL_snoc _ _ _
      have HS := Lib.hid hsn
      have HB1 := Lib.hid hb1
      have HL1 := Lib.hid hl1
      clear hsn hv hb1 hl1
      generalize addL [] (xs.take k) = L at HO HS HB1 HL1 ⊢
      go_wp2_with fail
      refine (radd_any w.heap.size L.length cp a L v _ HO.out hkp.size (by have := HL1.out; simp at this; omega) (fun u hu => by have := HB1.out u hu; omega) (by omega)).mono ?_
      rintro e w2 ⟨v', rfl, ho2, hk2⟩
      have hk3 : Kp No w w2 := hkp.trans hk2 (fun g hg h => absurd h (Nat.not_le.2 hg))
      rw [← HS.out] at ho2
      have HO2 := Lib.hid ho2
      have HK3 := Lib.hid hk3
      clear ho2 hk2 hk3
      go_wp2_with fail
      go_roundw
      case rel => exact ⟨k + 1, by omega, by go_num, HO2.out, HK3.out⟩
      case measure => simp [intOf]; omega
    · obtain rfl : k = n := by omega
      have hfx : xs.take k = xs := List.take_of_length_le (by omega)
      rw [hfx] at HO ⊢
      clear hfx
      have HK0 := Lib.hid hkp
      go_wp2_with fail
      go_loopw [5, 7] (fun s i wr => ∃ j : Nat, j ≤ m ∧ i = .int .i64 j ∧ wr.ownsRow w.heap.size 59 4 s (addL (addL [] xs) ((ys.take j).map neg)).length (flat (addL (addL [] xs) ((ys.take j).map neg))) ∧ Kp No w wr) (fun s i _ => m - (intOf i).toNat)
      case atStart => exact ⟨0, by omega, rfl, HO.out, hkp⟩
      case round =>
        obtain ⟨j, hj, rfl, hown, hkp2⟩ := hrel
        obtain ⟨a2, cp2, rfl, _, _, _⟩ := own_form hown
        have HO2 := Lib.hid hown
        clear hown
        by_cases hlt2 : j < m
        · obtain ⟨v, hv⟩ : ∃ v, ys[j]? = some v := ⟨_, List.getElem?_eq_getElem (by omega)⟩
          obtain ⟨b, o, rfl, hb, c0, c1, c2, c3⟩ := (hy.no hkp2).2 j v hv
          have hvq := SY.out v (List.mem_of_getElem? hv)
          have hl1 := addL_len ((ys.take j).map neg) (addL [] xs)
          have hl2 := addL_len xs []
          have hb0 := addL_bd xs [] 0 (by omega) (fun v hv => by cases hv) (fun u hu => by have := SX.out u hu; omega)
          have hb1 := addL_bd ((ys.take j).map neg) (addL [] xs) _ (by omega) hb0 (fun u hu => by
            obtain ⟨y, hy, rfl⟩ := List.mem_map.1 hu
            have := SY.out y (List.mem_of_mem_take hy)
            show -100 ≤ -y.q ∧ -y.q ≤ 100
            omega)
          rw [List.length_map, List.length_take] at hb1 hl1
          have hsn : addL (addL [] xs) ((ys.take (j + 1)).map neg) = addC (neg v) (addL (addL [] xs) ((ys.take j).map neg)) := by rw [take_map_snoc ys j v hv]; exact addL_snoc _ _ _
          have HS := Lib.hid hsn
          have HB1 := Lib.hid hb1
          have HL1 := Lib.hid (show (addL (addL [] xs) ((ys.take j).map neg)).length ≤ 48 by simp at hl2; omega)
          clear hsn hv hb1 hl1 hl2 hb0
          generalize addL (addL [] xs) ((ys.take j).map neg) = L at HO2 HS HB1 HL1 ⊢
          go_wp2_with fail
          refine (radd_any w.heap.size L.length cp2 a2 L (neg v) _ (HO2.out.alloc _) (by have := hkp2.size; simp; omega) (by have := HL1.out; omega) (fun u hu => by have := HB1.out u hu; omega) (by show -100000 ≤ -v.q ∧ -v.q ≤ 100000; omega)).mono ?_
          rintro e w2 ⟨v', rfl, ho2, hk2⟩
          have hk3 : Kp No w w2 := (hkp2.tr (Kp.alloc _ _ _)).trans hk2 (fun g hg h => absurd h (Nat.not_le.2 hg))
          rw [← HS.out] at ho2
          have HO3 := Lib.hid ho2
          have HK3 := Lib.hid hk3
          clear ho2 hk2 hk3
          go_wp2_with fail
          go_roundw
          case rel => exact ⟨j + 1, by omega, by go_num, HO3.out, HK3.out⟩
          case measure => simp [intOf]; omega
        · obtain rfl : j = m := by omega
          have hfy : ys.take j = ys := List.take_of_length_le (by omega)
          rw [hfy] at HO2 ⊢
          clear hfy
          have HK2 := Lib.hid hkp2
          clear hkp2
          go_wp2_with fail
          go_ret
          exact ⟨_, rfl, HO2.out, HK2.out⟩
end Go.Proofs.Ytfflhlmnfhfcgaa

namespace Go.Kq
open Go.RowKit Go.Sort Go.Proofs

/-! ### rows of one cell -/
section
variable {α : Type} [Inhabited α] {f : α → Value} {w : World} {base e n cap g m : Nat} {os : Array Obj} {vs ts : List α}
theorem own_holds (h : w.ownsRow base e 1 (.slice (some ⟨g, 0, none⟩) n cap) n (vs.map f)) : Holds f w g 0 vs.toArray := by
  intro j hj
  have hj' : j < vs.length := by simpa using hj
  rw [Nat.zero_add]
  refine ⟨own_cell h (j := j) ?_, own_free h j⟩
  rw [List.getElem?_map, List.getElem?_eq_getElem hj']
  simp [hj']
theorem heap_sorted1 {cur : Array Value} {fr : Nat × Nat} (d : Array α) (hb : w.heap[g]? = some (.cells cur e fr)) : (sortWorld f w g 0 m d os).heap[g]? = some (.cells (putCells f 0 d cur) e fr) := by
  have hg : g < w.heap.size := (Array.getElem?_eq_some_iff.1 hb).1
  unfold sortWorld
  rw [heap_grow_old _ _ (by simpa using hg)]
  simp [putRow, mapBlock, Sort.ahead, Array.getElem?_modify, hb, onCells]
theorem kp_sorted1 (d : Array α) : Kp (One g) w (sortWorld f w g 0 m d os) := by
  refine ⟨rfl, rfl, rfl, by simp [sortWorld], fun k hk hne => ?_⟩
  unfold sortWorld
  rw [heap_grow_old _ _ (by simpa using hk)]
  have : g ≠ k := fun e => hne e.symm
  simp [putRow, mapBlock, Sort.ahead, Array.getElem?_modify, this]
theorem take_put1 (cur : Array Value) (ts : List α) (h : ts.length ≤ cur.size) : (putCells f 0 ts.toArray cur).toList.take ts.length = ts.map f := by
  apply List.ext_getElem?
  intro j
  by_cases hj : j < ts.length
  · rw [List.getElem?_take_of_lt hj, Array.getElem?_toList]
    simp [putCells, hj, show j < cur.size by omega]
  · rw [List.getElem?_take_eq_none (by omega), List.getElem?_eq_none (by simp; omega)]
theorem own_sorted1 (h : w.ownsRow base e 1 (.slice (some ⟨g, 0, none⟩) n cap) n (vs.map f)) (hl : ts.length = vs.length) : (sortWorld f w g 0 m ts.toArray os).ownsRow base e 1 (.slice (some ⟨g, 0, none⟩) n cap) n (ts.map f) := by
  have hn : vs.length = n := by have := h.1; simpa using this
  rcases h.2 with ⟨h0, _⟩ | ⟨g', cap', cur, hv, hb, hg, h1, h2, h3, _⟩
  · cases h0
  · cases hv
    exact ⟨by simp; omega, .inr ⟨g, cap, _, rfl, hb, heap_sorted1 _ hg, h1, h2, by simp [putCells, h3], by
      rw [Nat.mul_one, show n = ts.length by omega]
      exact take_put1 cur ts (by omega)⟩⟩
end

/-! ### rows of k cells -/
section
variable {α : Type} [Inhabited α] {f : α → List Value} {k : Nat} {w : World} {base e n cap g m : Nat} {os : Array Obj} {vs ts : List α}
theorem flatK_eq (hk : ∀ x, (f x).length = k) (vs : List α) : flatK f k vs.toArray = (vs.flatMap f).toArray := by
  rcases Nat.eq_zero_or_pos k with h0 | h0
  · subst h0
    have : vs.flatMap f = [] := by
      rw [← List.length_eq_zero_iff, flat_len hk]
      omega
    rw [this]
    simp [flatK]
  refine ext_get! (by simp [flat_len hk]) fun t ht => ?_
  rw [size_flatK] at ht
  have ht' : t < vs.length * k := by simpa using ht
  rw [get_flatK _ _ _ _ (by simpa using ht')]
  have hd : t / k < vs.length := Nat.div_lt_of_lt_mul (by rw [Nat.mul_comm]; exact ht')
  have hm : t % k < (f vs[t / k]).length := by rw [hk]; exact Nat.mod_lt _ h0
  have := flat_at hk vs (t / k) vs[t / k] (t % k) (f vs[t / k])[t % k] (List.getElem?_eq_getElem hd) (List.getElem?_eq_getElem hm)
  rw [Nat.div_add_mod'] at this
  have e1 : (vs.flatMap f).toArray[t]! = (f vs[t / k])[t % k] := by
    rw [Array.getElem!_eq_getD, Array.getD_eq_getD_getElem?, List.getElem?_toArray, this]
    rfl
  rw [e1]
  have e2 : vs.toArray[t / k]! = vs[t / k] := by simp [hd]
  rw [e2]
  exact getElem!_pos (f vs[t / k]) (t % k) hm
theorem own_holdsK (hk : ∀ x, (f x).length = k) (h : w.ownsRow base e k (.slice (some ⟨g, 0, none⟩) n cap) n (vs.flatMap f)) : HoldsK f k w g 0 vs.toArray := by
  unfold HoldsK
  rw [flatK_eq hk]
  intro j hj
  have hj' : j < (vs.flatMap f).length := by simpa using hj
  rw [Nat.zero_add]
  refine ⟨own_cell h (j := j) ?_, own_free h j⟩
  rw [getElem!_pos (vs.flatMap f).toArray j hj]
  exact List.getElem?_eq_getElem hj'
theorem sortWorldK_eq (hk : ∀ x, (f x).length = k) : sortWorldK f k w g 0 m ts.toArray os = sortWorld id w g 0 m (ts.flatMap f).toArray os := by
  unfold sortWorldK putRowK sortWorld
  rw [flatK_eq hk]
theorem kp_sortedK (hk : ∀ x, (f x).length = k) (ts : List α) : Kp (One g) w (sortWorldK f k w g 0 m ts.toArray os) := by
  rw [sortWorldK_eq hk]
  exact kp_sorted1 _
theorem take_put_id (cur : Array Value) (us : List Value) (h : us.length ≤ cur.size) : (putCells id 0 us.toArray cur).toList.take us.length = us := by
  have := take_put1 (f := id) cur us h
  simpa using this
theorem own_sortedK (hk : ∀ x, (f x).length = k) (h : w.ownsRow base e k (.slice (some ⟨g, 0, none⟩) n cap) n (vs.flatMap f)) (hl : ts.length = vs.length) : (sortWorldK f k w g 0 m ts.toArray os).ownsRow base e k (.slice (some ⟨g, 0, none⟩) n cap) n (ts.flatMap f) := by
  rw [sortWorldK_eq hk]
  have hn : (vs.flatMap f).length = n * k := h.1
  have hts : (ts.flatMap f).length = n * k := by rw [flat_len hk, hl, ← flat_len hk, hn]
  rcases h.2 with ⟨h0, _⟩ | ⟨g', cap', cur, hv, hb, hg, h1, h2, h3, _⟩
  · cases h0
  · cases hv
    exact ⟨hts, .inr ⟨g, cap, _, rfl, hb, heap_sorted1 _ hg, h1, h2, by simp [putCells, h3], by
      rw [← hts]
      exact take_put_id cur _ (by rw [hts, h3]; exact Nat.mul_le_mul_right _ h1)⟩⟩
end

/-- A list that is sorted and has what another one has. -/
theorem perm_of_permIn {α : Type} [Inhabited α] {l : List α} {d : Array α} (h : PermIn 0 l.toArray.size l.toArray d) : d.toList.Perm l := by
  obtain ⟨h1, _, h3⟩ := h
  rw [show d.extract 0 l.toArray.size = d by rw [← h1]; exact Array.extract_size, Array.extract_size] at h3
  simpa using h3
theorem pairwise_of_sortedIn {α : Type} [Inhabited α] {lt : α → α → Bool} {d : Array α} {n : Nat} (hn : d.size = n) (h : SortedIn lt 0 n d) : d.toList.Pairwise fun x y => lt y x = false := by
  rw [List.pairwise_iff_getElem]
  intro i j hi hj hij
  have := h i j (Nat.zero_le _) hij (by simpa [hn] using hj)
  rw [getElem!_pos d i (by simpa using hi), getElem!_pos d j (by simpa using hj)] at this
  simpa using this
end Go.Kq
