/- Chapter 13: Peak's closures: walks. · Chapter 13: Peak's two sorts: contracts at rows of numbers. -/
import Derived.StillTailTactics
import Derived.Sort.Grow
import Derived.Shelf.Sort.Plain
import Derived.Shelf.Slices.In.SortNone
import Derived.Test.YtlieijnhaolnhaaGreatXCf
import Derived.Test.YtlieijnhaolnhaaGreatXSplM
import Derived.Test.YtlieijnhaolnhaaGreatXCmlM
import Derived.Test.YtlieijnhaolnhaaGreatXLibSortM
import Derived.Test.YtlieijnhaolnhaaGreatXLibMakeM
namespace Go.Proofs.YtlieijnhaolnhaaGreat
open Go.RowKit Go.Kq

theorem spcheck_any (lo hi : Int) (w : World) : Calls Tryz.prog 50 #[.agg #[.int .i64 lo, .int .i64 hi]] w fun e w' => e = .returned (.int .i64 (ckE [(lo, hi)])) ∧ Kp No w w' := by
  have HCK := Lib.hid (fun g w0 hc => check_any [(lo, hi)] g 0 1 1 w0 rfl (by omega) hc)
  go_enter Tryz.func50, Tryz.ntmps50
  go_wp2_with fail
  refine (HCK.out _ _ (ck1_cells _ _ _ _ (by go_simp) (by go_simp))).mono ?_
  rintro e w1 ⟨rfl, hk⟩
  go_wp2_with fail
  go_ret
  exact ⟨rfl, ((Kp.alloc No w _).tr (Kp.alloc No _ _)).tr hk⟩
/-- A key that is not allowed. -/
def kyB (x : Int × Int) : Bool := decide (ckE [x] ≠ 0) || decide (x.1 < 0)
set_option maxHeartbeats 1000000 in
theorem peak1_any (x : Int × Int) (w : World) : Calls Tryz.prog 49 #[ivP x] w fun e w' => e = .returned (.bool (kyB x)) ∧ Kp No w w' := by
  obtain ⟨lo, hi⟩ := x
  unfold kyB
  have SC := Lib.hid (spcheck_any lo hi)
  generalize ckE [(lo, hi)] = z at *
  simp only [ivP]
  by_cases hz : z = 0
  · subst hz
    go_enter Tryz.func49, Tryz.ntmps49
    go_wp2_with fail
    refine (SC.out _).mono ?_
    rintro e w1 ⟨rfl, k1⟩
    obtain ⟨c0, c1, _, _⟩ := two_cells (k1.heap (at_new (n := w.heap.size) rfl) id)
    have KK := Lib.hid ((Kp.alloc No w _).tr k1)
    clear k1
    go_wp2
    go_ret
    exact ⟨ret_bool (by simp), KK.out⟩
  · have hb : (z == 0) = false := by rw [beq_eq_false_iff_ne]; exact hz
    have hb3 : (z != 0) = true := by rw [bne_iff_ne]; exact hz
    have hb2 : decide (z ≠ 0) = true := by simpa using hz
    rw [hb2]
    clear hz hb2
    go_enter Tryz.func49, Tryz.ntmps49
    go_wp2_with fail
    refine (SC.out _).mono ?_
    rintro e w1 ⟨rfl, k1⟩
    have KK := Lib.hid ((Kp.alloc No w _).tr k1)
    clear k1
    go_wp2
    go_ret
    exact ⟨ret_bool (by simp), KK.out⟩
/-- How two keys are ordered. -/
def cfK (K : List (Int × Int)) (i j : Nat) : Int := orL [cmpI (kHi K j) (kHi K i), cmpI (kLo K j) (kLo K i), cmpI i j]
theorem cfK_neg (K : List (Int × Int)) (i j : Nat) : decide (cfK K i j < 0) = bef K i j := by
  rw [Bool.eq_iff_iff]
  unfold bef cfK
  simp only [decide_eq_true_eq, orL]
  rcases cmpI_cases (kHi K j) (kHi K i) with ⟨h, h1⟩ | ⟨h, h1⟩ | ⟨h, h1⟩ <;> rcases cmpI_cases (kLo K j) (kLo K i) with ⟨k, k1⟩ | ⟨k, k1⟩ | ⟨k, k1⟩ <;> rcases cmpI_cases (i : Int) (j : Int) with ⟨m, m1⟩ | ⟨m, m1⟩ | ⟨m, m1⟩ <;> rw [h, k, m] <;> simp <;> omega
theorem rdi3 (w : World) (x y z : Int) : RdI .i64 (w.alloc (.cells #[.int .i64 x, .int .i64 y, .int .i64 z] 3)) (some ⟨w.heap.size, 0, none⟩) 3 [x, y, z] := by
  refine ⟨rfl, fun i u hu => ?_⟩
  match i, hu with
  | 0, hu => simp at hu; subst hu; exact ⟨_, _, rfl, by simp, by go_simp⟩
  | 1, hu => simp at hu; subst hu; exact ⟨_, _, rfl, by simp, by go_simp⟩
  | 2, hu => simp at hu; subst hu; exact ⟨_, _, rfl, by simp, by go_simp⟩
  | n + 3, hu => simp at hu
def natV (i : Nat) : Value := .int .i64 i
set_option maxHeartbeats 4000000 in
set_option maxRecDepth 100000 in
theorem peak2_any (B n cap : Nat) (A : Option Addr) (K : List (Int × Int)) (i j : Nat) (w : World) (hB : w.cell? ⟨B, 0, none⟩ = some (.slice A n cap)) (hK : Rd ivC 2 w A n K) (hi : i < n) (hj : j < n) (_hn : n ≤ 1000) :
    Calls Tryz.prog 52 #[natV i, natV j, .pointer (some ⟨B, 0, none⟩)] w fun e w' => e = .returned (.int .i64 (cfK K i j)) ∧ ∃ q os, w' = Sort.grow (w.drewN q) os := by
  obtain ⟨⟨x0, x1⟩, hx⟩ : ∃ x, K[i]? = some x := ⟨_, List.getElem?_eq_getElem (by have := hK.1; omega)⟩
  obtain ⟨⟨y0, y1⟩, hy⟩ : ∃ x, K[j]? = some x := ⟨_, List.getElem?_eq_getElem (by have := hK.1; omega)⟩
  obtain ⟨b, o, rfl, _, hc⟩ := hK.2 i _ hx
  obtain ⟨b', o', he, _, hd⟩ := hK.2 j _ hy
  cases he
  have c0 := hc 0 _ rfl
  have c1 := hc 1 _ rfl
  have d0 := hd 0 _ rfl
  have d1 := hd 1 _ rfl
  simp only [Nat.add_zero] at c0 d0
  unfold cfK
  have e1 : kHi K i = x1 := by unfold kHi; rw [List.getD_eq_getElem?_getD, hx]; rfl
  have e2 : kLo K i = x0 := by unfold kLo; rw [List.getD_eq_getElem?_getD, hx]; rfl
  have e3 : kHi K j = y1 := by unfold kHi; rw [List.getD_eq_getElem?_getD, hy]; rfl
  have e4 : kLo K j = y0 := by unfold kLo; rw [List.getD_eq_getElem?_getD, hy]; rfl
  rw [e1, e2, e3, e4]
  have hi0 : (0 : Int) ≤ (i : Int) := by omega
  have hj0 : (0 : Int) ≤ (j : Int) := by omega
  have hin : (i : Int) < (n : Int) := by omega
  have hjn : (j : Int) < (n : Int) := by omega
  have ti : ((i : Nat) : Int).toNat = i := by omega
  have tj : ((j : Nat) : Int).toNat = j := by omega
  clear e1 e2 e3 e4 hx hy hc hd hK _hn hi hj
  simp only [natV]
  go_enter Tryz.func52, Tryz.ntmps52
  go_wp2_with fail
  refine wp_region_still_tail 25 (by kernel_rfl) (by kernel_rfl) ?_
  simp only [List.take_succ_cons, List.take_zero, List.drop_succ_cons, List.drop_zero]
  repeat (first | still_step | still_call (cmpL_any _ _ _) | still_call (cmpI_any _ _ _))
  refine wpStill_nil ?_
  change wpList _ _ _ _ _ w.drew
  have HW := Lib.hid (show ∃ q os, w.drew = Sort.grow (w.drewN q) os from ⟨1, #[], by rw [Sort.grow_empty]; rfl⟩)
  clear c0 c1 d0 d1 hB
  generalize w.drew = w2 at HW ⊢
  go_wp2_with (go_at_call 53; refine (or_any _ 3 3 _ _ (rdi3 _ _ _ _) (by omega)).mono ?_; rintro e w' ⟨rfl, rfl⟩)
  go_ret
  obtain ⟨q, os, h⟩ := HW.out
  exact ⟨rfl, q, _, by rw [Sort.alloc_eq_grow, h, Sort.grow_grow]⟩
end Go.Proofs.YtlieijnhaolnhaaGreat

namespace Go.Proofs.YtlieijnhaolnhaaGreat
open Go.RowKit Go.Kq Go.Sort

theorem fin_vals (n : Nat) : (List.finRange n).map (fun i => natV i.val) = (List.range n).map natV := by
  apply List.ext_getElem
  · simp
  · intro i h1 h2
    simp
def cfF (K : List (Int × Int)) (n : Nat) (x y : Fin n) : Int := cfK K x.val y.val
theorem ltF (K : List (Int × Int)) (n : Nat) (x y : Fin n) : ltOf (cfF K n) x y = bef K x.val y.val := by
  unfold ltOf cfF
  exact cfK_neg K _ _
theorem bef_trans (K : List (Int × Int)) (i j k : Nat) (h1 : bef K i j = true) (h2 : bef K j k = true) : bef K i k = true := by
  unfold bef at *
  rw [decide_eq_true_eq] at *
  omega
theorem bef_ntrans (K : List (Int × Int)) (i j k : Nat) (h1 : bef K i j = false) (h2 : bef K j k = false) : bef K i k = false := by
  unfold bef at *
  rw [decide_eq_false_iff_not] at *
  omega
theorem swoF (K : List (Int × Int)) (n : Nat) : SWO (ltOf (cfF K n)) where
  irrefl x := by rw [ltF]; exact bef_irr K _
  trans x y z h1 h2 := by rw [ltF] at *; exact bef_trans K _ _ _ h1 h2
  ntrans x y z h1 h2 := by rw [ltF] at *; exact bef_ntrans K _ _ _ h1 h2
set_option maxHeartbeats 1000000 in
/-- The keys' numbers are sorted. -/
theorem sortf_any (B g n base cap : Nat) (A : Option Addr) (c2 : Nat) (K : List (Int × Int)) (w : World) (hB : w.cell? ⟨B, 0, none⟩ = some (.slice A n c2)) (hK : Rd ivC 2 w A n K) (hn : n ≤ 1000) (hBg : B ≠ g) (hAg : 0 < n → ∀ b o, A = some ⟨b, o, none⟩ → b ≠ g)
    (ho : w.ownsRow base 3 1 (.slice (some ⟨g, 0, none⟩) n cap) n ((List.range n).map natV)) :
    Calls Tryz.prog 51 #[.slice (some ⟨g, 0, none⟩) n cap, .func (.func 52) #[] #[.pointer (some ⟨B, 0, none⟩)]] w fun e w' => e = .returned (.tuple #[]) ∧ ∃ S : List Nat, S.Perm (List.range n) ∧ S.Pairwise (fun x y => bef K y x = false) ∧
      w'.ownsRow base 3 1 (.slice (some ⟨g, 0, none⟩) n cap) n (S.map natV) ∧ Kp (Kq.One g) w w' := by
  by_cases h0 : n = 0
  · subst h0
    have hs := AnyF.slices_SortFunc_none (P := Tryz.prog) (ρ := sortFI_ren) { sortFI with } (some ⟨g, 0, none⟩) cap (.func (.func 52) #[] #[.pointer (some ⟨B, 0, none⟩)]) w
    refine Calls.mono (show Calls Tryz.prog 51 _ _ _ from hs) ?_
    rintro e w' ⟨rfl, rfl⟩
    exact ⟨rfl, [], by simp, List.Pairwise.nil, by simpa using ho, Kp.refl _ _⟩
  · haveI : Inhabited (Fin n) := ⟨⟨0, by omega⟩⟩
    have hgl := (own_ge ho (g := g) rfl).2
    have hcmp : CmpLays1 Tryz.prog 52 #[.pointer (some ⟨B, 0, none⟩)] (fun i : Fin n => natV i.val) (cfF K n) g 0 (List.finRange n).toArray.size w := by
      intro m os dk _ x y
      have hk : Kp (Kq.One g) w (sortWorld (fun i : Fin n => natV i.val) w g 0 m dk os) := kp_sorted1 dk
      exact peak2_any B n c2 A K x.val y.val _ (hk.cell hB (fun e => hBg e)) (hK.kp hk (fun b o h _ e => hAg (by omega) b o h e)) x.isLt y.isLt hn
    have hs := Any.slices_SortFunc sortFI (fun i : Fin n => natV i.val) (fun x => rfl) (cfF K n) (swoF K n) 52 #[.pointer (some ⟨B, 0, none⟩)] g 0 cap (List.finRange n).toArray w (enters_of Tryz.func52 (by kernel_rfl) rfl) hcmp (own_holds (by rw [fin_vals]; exact ho)) hgl (by simp; omega)
    simp only [List.size_toArray, List.length_finRange] at hs
    refine Calls.mono (show Calls Tryz.prog 51 _ _ _ from hs) ?_
    rintro e w' ⟨rfl, d', m, os, hpi, hsi, rfl⟩
    have hP := perm_of_permIn (l := List.finRange n) (by simpa using hpi)
    have hsz : d'.size = n := by have := hpi.1; simpa using this
    have hpw := pairwise_of_sortedIn hsz hsi
    obtain ⟨l'⟩ := d'
    refine ⟨rfl, l'.map Fin.val, ?_, ?_, ?_, kp_sorted1 _⟩
    · have := hP.map Fin.val
      refine this.trans (List.Perm.of_eq ?_)
      apply List.ext_getElem
      · simp
      · intro i h1 h2
        simp
    · rw [List.pairwise_map]
      exact hpw.imp fun {a b} h => by rwa [ltF] at h
    · have := own_sorted1 (m := m) (os := os) (f := fun i : Fin n => natV i.val) (vs := List.finRange n) (ts := l') (by rw [fin_vals]; exact ho) (by simpa using hsz)
      rw [List.map_map]
      exact this
theorem natV_list (zs : List Int) (h : ∀ z ∈ zs, 0 ≤ z) : (zs.map Int.toNat).map natV = zs.map (Value.int .i64) := by
  rw [List.map_map]
  refine List.map_congr_left fun z hz => ?_
  have := h z hz
  simp only [Function.comp, natV, Int.toNat_of_nonneg this]
set_option maxHeartbeats 1000000 in
/-- Numbers are sorted. -/
theorem sorto_any (g n base cap : Nat) (S : List Nat) (w : World) (hn : n ≤ 1000) (ho : w.ownsRow base 3 1 (.slice (some ⟨g, 0, none⟩) n cap) n (S.map natV)) :
    Calls Tryz.prog 56 #[.slice (some ⟨g, 0, none⟩) n cap] w fun e w' => e = .returned (.tuple #[]) ∧ ∃ T : List Nat, T.Perm S ∧ T.Pairwise (· ≤ ·) ∧
      w'.ownsRow base 3 1 (.slice (some ⟨g, 0, none⟩) n cap) n (T.map natV) ∧ Kp (Kq.One g) w w' := by
  have hl : S.length = n := by have := ho.1; simpa using this
  by_cases h0 : n = 0
  · subst h0
    have hS : S = [] := List.length_eq_zero_iff.1 hl
    subst hS
    have hs := Any.slices_Sort_int_none sortOI (some ⟨g, 0, none⟩) cap w
    refine Calls.mono (show Calls Tryz.prog 56 _ _ _ from hs) ?_
    rintro e w' ⟨rfl, rfl⟩
    exact ⟨rfl, [], List.Perm.refl _, List.Pairwise.nil, ho, Kp.refl _ _⟩
  · have hgl := (own_ge ho (g := g) rfl).2
    obtain ⟨zs, hz⟩ : ∃ zs : List Int, zs = S.map (fun i : Nat => (i : Int)) := ⟨_, rfl⟩
    have hzv : zs.map (Value.int .i64) = S.map natV := by rw [hz, List.map_map]; rfl
    have hzl : zs.length = n := by rw [hz, List.length_map, hl]
    rw [← hzv] at ho
    have hs := Any.slices_Sort_int sortOI g 0 cap zs w (own_holds ho) hgl (by omega)
    rw [hzl] at hs
    refine Calls.mono (show Calls Tryz.prog 56 _ _ _ from hs) ?_
    rintro e w' ⟨rfl, m, os, rfl⟩
    have hperm := List.mergeSort_perm zs fun x y => decide (x ≤ y)
    have hsort := List.pairwise_mergeSort (le := fun x y : Int => decide (x ≤ y)) (fun a b c h1 h2 => by simp at *; omega) (fun a b => by simp; omega) zs
    have hnn : ∀ z ∈ zs.mergeSort (fun x y => decide (x ≤ y)), 0 ≤ z := fun z hz' => by
      have h1 := hperm.mem_iff.1 hz'
      rw [hz, List.mem_map] at h1
      obtain ⟨i, _, rfl⟩ := h1
      omega
    refine ⟨rfl, (zs.mergeSort fun x y => decide (x ≤ y)).map Int.toNat, ?_, ?_, ?_, ?_⟩
    · refine (hperm.map Int.toNat).trans (List.Perm.of_eq ?_)
      rw [hz, List.map_map]
      have : (Int.toNat ∘ fun i : Nat => (i : Int)) = id := funext fun i => by simp
      rw [this, List.map_id]
    · rw [List.pairwise_map]
      exact hsort.imp fun {a b} h => by simp at h; omega
    · rw [natV_list _ hnn]
      exact own_sorted1 (m := m) (os := os) (vs := zs) (ts := zs.mergeSort fun x y => decide (x ≤ y)) ho (by rw [hperm.length_eq])
    · exact kp_sorted1 (f := Value.int .i64) (m := m) (os := os) (w := w) (g := g) (zs.mergeSort fun x y => decide (x ≤ y)).toArray
end Go.Proofs.YtlieijnhaolnhaaGreat
