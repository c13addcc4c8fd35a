/- Chapter 33: slices.Sort and slices.Compact of numbers: contracts in the words of rows. -/
import Derived.Shelf.Slices.CompactI
import Derived.Shelf.Sort.Plain
import Derived.Shelf.Slices.In.SortNone
import Derived.Test.YtfflhlmnfhfcgaaXSrtOM
import Derived.Test.YtfflhlmnfhfcgaaXLibSortM
import Derived.Test.YtfflhlmnfhfcgaaXRtQ
namespace Go.Proofs.Ytfflhlmnfhfcgaa
open Go.RowKit Go.Kq Go.Sort

theorem natV_int (S : List Nat) : (S.map (fun i : Nat => (i : Int))).map (Value.int .i64) = S.map natV := by rw [List.map_map]; rfl
def natL (zs : List Int) : List Nat := zs.map Int.toNat
theorem natV_list (zs : List Int) (h : ∀ z ∈ zs, 0 ≤ z) : (natL zs).map natV = zs.map (Value.int .i64) := by
  unfold natL
  rw [List.map_map]
  refine List.map_congr_left fun z hz => ?_
  have := h z hz
  simp only [Function.comp, natV, Int.toNat_of_nonneg this]
theorem natL_int (S : List Nat) : natL (S.map (fun i : Nat => (i : Int))) = S := by
  unfold natL
  rw [List.map_map]
  have : (Int.toNat ∘ fun i : Nat => (i : Int)) = id := funext fun i => by simp
  rw [this, List.map_id]
set_option maxHeartbeats 1000000 in
/-- Numbers are sorted. -/
theorem sort_any (A : Option Addr) (n base cap : Nat) (S : List Nat) (w : World) (hn : n ≤ 1000) (ho : w.ownsRow base 3 1 (.slice A n cap) n (S.map natV)) :
    Calls Try.prog 42 #[.slice A n cap] w fun e w' => e = .returned (.tuple #[]) ∧ w'.ownsRow base 3 1 (.slice A n cap) n ((srt S).map natV) ∧ Kp (fun k => (Value.slice A n cap).ownBlock = some k) w w' := by
  have hl : S.length = n := by have := ho.1; simpa using this
  by_cases h0 : n = 0
  · subst h0
    have hS : S = [] := List.length_eq_zero_iff.1 hl
    subst hS
    have hs := Any.slices_Sort_int_none sortOI A cap w
    refine Calls.mono (show Calls Try.prog 42 _ _ _ from hs) ?_
    rintro e w' ⟨rfl, rfl⟩
    exact ⟨rfl, by rw [show srt [] = [] from (srt_perm []).eq_nil]; exact ho, Kp.refl _ _⟩
  · obtain ⟨a', cap', hv, _, _, hA⟩ := Go.Kq.own_form ho
    cases hv
    obtain ⟨g, rfl⟩ := hA (by omega)
    have hgl := (Go.Kq.own_ge ho (g := g) rfl).2
    obtain ⟨zs, hz⟩ : ∃ zs : List Int, zs = S.map (fun i : Nat => (i : Int)) := ⟨_, rfl⟩
    have hzv : zs.map (Value.int .i64) = S.map natV := by rw [hz, natV_int]
    have hzl : zs.length = n := by rw [hz, List.length_map, hl]
    rw [← hzv] at ho
    have hs := Any.slices_Sort_int sortOI g 0 cap zs w (own_holds ho) hgl (by omega)
    rw [hzl] at hs
    refine Calls.mono (show Calls Try.prog 42 _ _ _ from hs) ?_
    rintro e w' ⟨rfl, m, os, rfl⟩
    have hperm := List.mergeSort_perm zs fun x y => decide (x ≤ y)
    have hsort := List.pairwise_mergeSort (le := fun x y : Int => decide (x ≤ y)) (fun _ _ _ h1 h2 => by simp at *; omega) (fun _ _ => by simp; omega) zs
    have hnn : ∀ z ∈ zs.mergeSort (fun x y => decide (x ≤ y)), 0 ≤ z := fun z hz' => by
      have h1 := hperm.mem_iff.1 hz'
      rw [hz, List.mem_map] at h1
      obtain ⟨i, _, rfl⟩ := h1
      omega
    have hT : natL (zs.mergeSort fun x y => decide (x ≤ y)) = srt S := by
      refine srt_uniq ?_ ?_
      · refine (hperm.map Int.toNat).trans (List.Perm.of_eq ?_)
        rw [hz]
        exact natL_int S
      · unfold natL
        rw [List.pairwise_map]
        exact hsort.imp fun {a b} h => by simp at h; omega
    refine ⟨rfl, ?_, ?_⟩
    · rw [← hT, natV_list _ hnn]
      exact own_sorted1 (m := m) (os := os) (vs := zs) (ts := zs.mergeSort fun x y => decide (x ≤ y)) ho (by rw [hperm.length_eq])
    · exact (kp_sorted1 (f := Value.int .i64) (m := m) (os := os) (w := w) (g := g) (zs.mergeSort fun x y => decide (x ≤ y)).toArray).mono fun k _ h => by
        have h : k = g := h
        rw [h]
        rfl
theorem comp_mem (zs : List Int) (z : Int) : z ∈ Lib.compact zs ↔ z ∈ zs := by
  unfold Lib.compact Lib.compactUpTo
  simp only [List.mem_map, List.mem_filter, List.mem_range]
  constructor
  · rintro ⟨j, ⟨hj, _⟩, rfl⟩
    have : zs.toArray[j]! = zs[j] := by simp [hj]
    rw [this]
    exact List.getElem_mem hj
  · intro hz
    obtain ⟨j, hj, rfl⟩ := List.getElem_of_mem hz
    have key : ∀ (j : Nat) (hj : j < zs.length), ∃ a, (a < zs.length ∧ Lib.keeps zs.toArray a = true) ∧ zs.toArray[a]! = zs[j] := by
      intro j
      induction j with
      | zero => intro hj; exact ⟨0, ⟨hj, by simp [Lib.keeps]⟩, by simp [hj]⟩
      | succ j ih =>
        intro hj
        by_cases he : zs.toArray[j + 1]! = zs.toArray[j + 1 - 1]!
        · obtain ⟨a, h1, h2⟩ := ih (by omega)
          refine ⟨a, h1, h2.trans ?_⟩
          have e1 : zs.toArray[j + 1]! = zs[j + 1] := by simp [hj]
          have e2 : zs.toArray[j + 1 - 1]! = zs[j] := by simp [show j < zs.length by omega]
          rw [← e1, ← e2, he]
        · exact ⟨j + 1, ⟨hj, Lib.keeps_pos he⟩, by simp [hj]⟩
    exact key j hj
theorem comp_asc (zs : List Int) (hs : zs.Pairwise (· ≤ ·)) : (Lib.compact zs).Pairwise (· < ·) := by
  unfold Lib.compact Lib.compactUpTo
  rw [List.pairwise_map]
  have h1 : ((List.range zs.length).filter (Lib.keeps zs.toArray)).Pairwise (· < ·) := List.Pairwise.filter _ List.pairwise_lt_range
  refine List.Pairwise.imp_of_mem ?_ h1
  intro i j hi hj hij
  simp only [List.mem_filter, List.mem_range] at hi hj
  have hk := hj.2
  simp only [Lib.keeps, decide_eq_true_eq] at hk
  have hne := hk.resolve_left (by omega)
  have le : ∀ (a b : Nat) (ha : a ≤ b) (hb : b < zs.length), zs.toArray[a]! ≤ zs.toArray[b]! := by
    intro a b ha hb
    have e1 : zs.toArray[a]! = zs[a] := by simp [show a < zs.length by omega]
    have e2 : zs.toArray[b]! = zs[b] := by simp [hb]
    rw [e1, e2]
    rcases Nat.lt_or_ge a b with h | h
    · exact List.pairwise_iff_getElem.1 hs a b (by omega) hb h
    · obtain rfl : a = b := by omega
      exact Int.le_refl _
  have l1 := le i (j - 1) (by omega) (by omega)
  have l2 := le (j - 1) j (by omega) hj.1
  omega
theorem comp_len (zs : List Int) : (Lib.compact zs).length ≤ zs.length := by
  unfold Lib.compact Lib.compactUpTo
  rw [List.length_map]
  have := List.length_filter_le (Lib.keeps zs.toArray) (List.range zs.length)
  rw [List.length_range] at this
  exact this
/-- The head of a row of the call's own. -/
theorem own_head {w : World} {base e n m : Nat} {A : Option Addr} {cap : Nat} {xs ys : List Value} (h : w.ownsRow base e 1 (.slice A n cap) n (xs ++ ys)) (hm : xs.length = m) : w.ownsRow base e 1 (.slice A m cap) m xs := by
  have hl := h.1
  rw [List.length_append] at hl
  rcases h.2 with ⟨hv, _⟩ | ⟨g, cap', cur, hv, hb, hh, h1, h2, h3, h4⟩
  · cases hv
    have hx : xs = [] := List.length_eq_zero_iff.1 (by omega)
    subst hx
    simp at hm
    subst hm
    exact ⟨rfl, .inl ⟨rfl, rfl⟩⟩
  · cases hv
    refine ⟨by omega, .inr ⟨g, cap, cur, rfl, hb, hh, by omega, h2, h3, ?_⟩⟩
    have := congrArg (List.take (m * 1)) h4
    rw [List.take_take, Nat.min_eq_left (by omega), List.take_left' (by omega)] at this
    exact this
theorem put_ahead {w : World} {base e n cap g q : Nat} {vs ts : List Int} (h : w.ownsRow base e 1 (.slice (some ⟨g, 0, none⟩) n cap) n (vs.map (Value.int .i64))) (hl : ts.length = vs.length) :
    (putRow (Value.int .i64) (Sort.ahead w q) g 0 ts.toArray).ownsRow base e 1 (.slice (some ⟨g, 0, none⟩) n cap) n (ts.map (Value.int .i64)) ∧ Kp (Kq.One g) w (putRow (Value.int .i64) (Sort.ahead w q) g 0 ts.toArray) := by
  have h1 := own_sorted1 (m := q) (os := #[]) (vs := vs) (ts := ts) h hl
  have h2 := kp_sorted1 (f := Value.int .i64) (m := q) (os := #[]) (w := w) (g := g) ts.toArray
  unfold sortWorld at h1 h2
  rw [grow_empty] at h1 h2
  exact ⟨h1, h2⟩
set_option maxHeartbeats 1000000 in
/-- What stands twice is struck. -/
theorem comp_any (A : Option Addr) (n base cap : Nat) (zs : List Int) (w : World) (hn : n ≤ 1000) (ho : w.ownsRow base 3 1 (.slice A n cap) n (zs.map (Value.int .i64))) :
    Calls Try.prog 60 #[.slice A n cap] w fun e w' => e = .returned (.slice A (Lib.compact zs).length cap) ∧ w'.ownsRow base 3 1 (.slice A (Lib.compact zs).length cap) (Lib.compact zs).length ((Lib.compact zs).map (Value.int .i64)) ∧ Kp (fun k => (Value.slice A n cap).ownBlock = some k) w w' := by
  have hl : zs.length = n := by have := ho.1; simpa using this
  by_cases h0 : n = 0
  · subst h0
    have hS : zs = [] := List.length_eq_zero_iff.1 hl
    subst hS
    have hs := Any.slices_Compact_int_empty compI A cap w
    refine Calls.mono (show Calls Try.prog 60 _ _ _ from hs) ?_
    rintro e w' ⟨rfl, rfl⟩
    exact ⟨rfl, ho, Kp.refl _ _⟩
  · obtain ⟨a', cap', hv, hc, _, hA⟩ := Go.Kq.own_form ho
    cases hv
    obtain ⟨g, rfl⟩ := hA (by omega)
    have hs := Any.slices_Compact_int compI g 0 cap zs w (own_holds ho) (by omega) (by omega)
    rw [hl] at hs
    refine Calls.mono (show Calls Try.prog 60 _ _ _ from hs) ?_
    rintro e w' ⟨rfl, q, rfl⟩
    have hcl := comp_len zs
    obtain ⟨p1, p2⟩ := put_ahead (q := q) (ts := Lib.compact zs ++ List.replicate (n - (Lib.compact zs).length) 0) ho (by simp; omega)
    rw [List.map_append] at p1
    exact ⟨rfl, own_head p1 (by simp), p2.mono fun k _ h => by
      have h : k = g := h
      rw [h]
      rfl⟩
end Go.Proofs.Ytfflhlmnfhfcgaa
