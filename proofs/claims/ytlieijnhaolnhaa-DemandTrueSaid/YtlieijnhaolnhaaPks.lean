/- Chapter 13: Peak's two sorts: contracts at rows of numbers. -/
import Derived.Test.YtlieijnhaolnhaaPka
import Derived.Test.YtlieijnhaolnhaaSrtI
import Derived.Test.YtlieijnhaolnhaaSrtO
import Derived.Test.YtlieijnhaolnhaaLibSort
import Derived.Shelf.Sort.Plain
import Derived.Shelf.Slices.In.SortNone
namespace Go.Proofs.Ytlieijnhaolnhaa
open Go.RowKit Go.Kq Go.Sort

theorem fin_vals (n : Nat) : (List.finRange n).map (fun i => natV i.val) = (List.range n).map natV := by
  apply List.ext_getElem
  · simp
  · intro i h1 h2
    simp
def cfF (K : List (Int × Int)) (n : Nat) (x y : Fin n) : Int := cfK K x.val y.val
theorem ltF (K : List (Int × Int)) (n : Nat) (x y : Fin n) : ltOf (cfF K n) x y = bef K x.val y.val := by
  unfold ltOf cfF
  exact cfK_neg K _ _
theorem bef_trans (K : List (Int × Int)) (i j k : Nat) (h1 : bef K i j = true) (h2 : bef K j k = true) : bef K i k = true := by
  unfold bef at *
  rw [decide_eq_true_eq] at *
  omega
theorem bef_ntrans (K : List (Int × Int)) (i j k : Nat) (h1 : bef K i j = false) (h2 : bef K j k = false) : bef K i k = false := by
  unfold bef at *
  rw [decide_eq_false_iff_not] at *
  omega
theorem swoF (K : List (Int × Int)) (n : Nat) : SWO (ltOf (cfF K n)) where
  irrefl x := by rw [ltF]; exact bef_irr K _
  trans x y z h1 h2 := by rw [ltF] at *; exact bef_trans K _ _ _ h1 h2
  ntrans x y z h1 h2 := by rw [ltF] at *; exact bef_ntrans K _ _ _ h1 h2
set_option maxHeartbeats 1000000 in
/-- The keys' numbers are sorted. -/
theorem sortf_any (B g n base cap : Nat) (A : Option Addr) (c2 : Nat) (K : List (Int × Int)) (w : World) (hB : w.cell? ⟨B, 0, none⟩ = some (.slice A n c2)) (hK : Rd ivC 2 w A n K) (hn : n ≤ 1000) (hBg : B ≠ g) (hAg : 0 < n → ∀ b o, A = some ⟨b, o, none⟩ → b ≠ g)
    (ho : w.ownsRow base 3 1 (.slice (some ⟨g, 0, none⟩) n cap) n ((List.range n).map natV)) :
    Calls Try.prog 27 #[.slice (some ⟨g, 0, none⟩) n cap, .func (.func 28) #[] #[.pointer (some ⟨B, 0, none⟩)]] w fun e w' => e = .returned (.tuple #[]) ∧ ∃ S : List Nat, S.Perm (List.range n) ∧ S.Pairwise (fun x y => bef K y x = false) ∧
      w'.ownsRow base 3 1 (.slice (some ⟨g, 0, none⟩) n cap) n (S.map natV) ∧ Kp (Kq.One g) w w' := by
  by_cases h0 : n = 0
  · subst h0
    have hs := AnyF.slices_SortFunc_none (P := Try.prog) (ρ := sortFI_ren) { sortFI with } (some ⟨g, 0, none⟩) cap (.func (.func 28) #[] #[.pointer (some ⟨B, 0, none⟩)]) w
    refine Calls.mono (show Calls Try.prog 27 _ _ _ from hs) ?_
    rintro e w' ⟨rfl, rfl⟩
    exact ⟨rfl, [], by simp, List.Pairwise.nil, by simpa using ho, Kp.refl _ _⟩
  · haveI : Inhabited (Fin n) := ⟨⟨0, by omega⟩⟩
    have hgl := (own_ge ho (g := g) rfl).2
    have hcmp : CmpLays1 Try.prog 28 #[.pointer (some ⟨B, 0, none⟩)] (fun i : Fin n => natV i.val) (cfF K n) g 0 (List.finRange n).toArray.size w := by
      intro m os dk _ x y
      have hk : Kp (Kq.One g) w (sortWorld (fun i : Fin n => natV i.val) w g 0 m dk os) := kp_sorted1 dk
      exact peak2_any B n c2 A K x.val y.val _ (hk.cell hB (fun e => hBg e)) (hK.kp hk (fun b o h _ e => hAg (by omega) b o h e)) x.isLt y.isLt hn
    have hs := Any.slices_SortFunc sortFI (fun i : Fin n => natV i.val) (fun x => rfl) (cfF K n) (swoF K n) 28 #[.pointer (some ⟨B, 0, none⟩)] g 0 cap (List.finRange n).toArray w (enters_of Try.func28 (by kernel_rfl) rfl) hcmp (own_holds (by rw [fin_vals]; exact ho)) hgl (by simp; omega)
    simp only [List.size_toArray, List.length_finRange] at hs
    refine Calls.mono (show Calls Try.prog 27 _ _ _ from hs) ?_
    rintro e w' ⟨rfl, d', m, os, hpi, hsi, rfl⟩
    have hP := perm_of_permIn (l := List.finRange n) (by simpa using hpi)
    have hsz : d'.size = n := by have := hpi.1; simpa using this
    have hpw := pairwise_of_sortedIn hsz hsi
    obtain ⟨l'⟩ := d'
    refine ⟨rfl, l'.map Fin.val, ?_, ?_, ?_, kp_sorted1 _⟩
    · have := hP.map Fin.val
      refine this.trans (List.Perm.of_eq ?_)
      apply List.ext_getElem
      · simp
      · intro i h1 h2
        simp
    · rw [List.pairwise_map]
      exact hpw.imp fun {a b} h => by rwa [ltF] at h
    · have := own_sorted1 (m := m) (os := os) (f := fun i : Fin n => natV i.val) (vs := List.finRange n) (ts := l') (by rw [fin_vals]; exact ho) (by simpa using hsz)
      rw [List.map_map]
      exact this
theorem natV_list (zs : List Int) (h : ∀ z ∈ zs, 0 ≤ z) : (zs.map Int.toNat).map natV = zs.map (Value.int .i64) := by
  rw [List.map_map]
  refine List.map_congr_left fun z hz => ?_
  have := h z hz
  simp only [Function.comp, natV, Int.toNat_of_nonneg this]
set_option maxHeartbeats 1000000 in
/-- Numbers are sorted. -/
theorem sorto_any (g n base cap : Nat) (S : List Nat) (w : World) (hn : n ≤ 1000) (ho : w.ownsRow base 3 1 (.slice (some ⟨g, 0, none⟩) n cap) n (S.map natV)) :
    Calls Try.prog 32 #[.slice (some ⟨g, 0, none⟩) n cap] w fun e w' => e = .returned (.tuple #[]) ∧ ∃ T : List Nat, T.Perm S ∧ T.Pairwise (· ≤ ·) ∧
      w'.ownsRow base 3 1 (.slice (some ⟨g, 0, none⟩) n cap) n (T.map natV) ∧ Kp (Kq.One g) w w' := by
  have hl : S.length = n := by have := ho.1; simpa using this
  by_cases h0 : n = 0
  · subst h0
    have hS : S = [] := List.length_eq_zero_iff.1 hl
    subst hS
    have hs := Any.slices_Sort_int_none sortOI (some ⟨g, 0, none⟩) cap w
    refine Calls.mono (show Calls Try.prog 32 _ _ _ from hs) ?_
    rintro e w' ⟨rfl, rfl⟩
    exact ⟨rfl, [], List.Perm.refl _, List.Pairwise.nil, ho, Kp.refl _ _⟩
  · have hgl := (own_ge ho (g := g) rfl).2
    obtain ⟨zs, hz⟩ : ∃ zs : List Int, zs = S.map (fun i : Nat => (i : Int)) := ⟨_, rfl⟩
    have hzv : zs.map (Value.int .i64) = S.map natV := by rw [hz, List.map_map]; rfl
    have hzl : zs.length = n := by rw [hz, List.length_map, hl]
    rw [← hzv] at ho
    have hs := Any.slices_Sort_int sortOI g 0 cap zs w (own_holds ho) hgl (by omega)
    rw [hzl] at hs
    refine Calls.mono (show Calls Try.prog 32 _ _ _ from hs) ?_
    rintro e w' ⟨rfl, m, os, rfl⟩
    have hperm := List.mergeSort_perm zs fun x y => decide (x ≤ y)
    have hsort := List.pairwise_mergeSort (le := fun x y : Int => decide (x ≤ y)) (fun a b c h1 h2 => by simp at *; omega) (fun a b => by simp; omega) zs
    have hnn : ∀ z ∈ zs.mergeSort (fun x y => decide (x ≤ y)), 0 ≤ z := fun z hz' => by
      have h1 := hperm.mem_iff.1 hz'
      rw [hz, List.mem_map] at h1
      obtain ⟨i, _, rfl⟩ := h1
      omega
    refine ⟨rfl, (zs.mergeSort fun x y => decide (x ≤ y)).map Int.toNat, ?_, ?_, ?_, ?_⟩
    · refine (hperm.map Int.toNat).trans (List.Perm.of_eq ?_)
      rw [hz, List.map_map]
      have : (Int.toNat ∘ fun i : Nat => (i : Int)) = id := funext fun i => by simp
      rw [this, List.map_id]
    · rw [List.pairwise_map]
      exact hsort.imp fun {a b} h => by simp at h; omega
    · rw [natV_list _ hnn]
      exact own_sorted1 (m := m) (os := os) (vs := zs) (ts := zs.mergeSort fun x y => decide (x ≤ y)) ho (by rw [hperm.length_eq])
    · exact kp_sorted1 (f := Value.int .i64) (m := m) (os := os) (w := w) (g := g) (zs.mergeSort fun x y => decide (x ≤ y)).toArray
end Go.Proofs.Ytlieijnhaolnhaa
