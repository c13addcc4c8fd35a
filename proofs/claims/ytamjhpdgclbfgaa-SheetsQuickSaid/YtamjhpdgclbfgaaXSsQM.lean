/- Chapter 09: the program's search and the reference's find the same nest: plain. · Chapter 09: the order of cuts is total; what the parts of the sort are wanted for: plain. · Chapter 09: the sort by parts: plain. -/
import Derived.Sort.AssemblyPlain
import Derived.Test.YtamjhpdgclbfgaaXNsR
import Derived.Test.YtamjhpdgclbfgaaXLibHxM
namespace Go.Proofs.Ytamjhpdgclbfgaa

theorem cmpI_neg {a b : Int} : cmpI a b < 0 ↔ a < b := by
  unfold cmpI
  split
  · exact ⟨fun _ => by assumption, fun _ => by omega⟩
  · split
    · exact ⟨fun h => absurd h (by omega), fun h => absurd h (by omega)⟩
    · exact ⟨fun h => absurd h (by omega), fun h => absurd h (by omega)⟩
theorem cmpI_zero {a b : Int} : cmpI a b = 0 ↔ a = b := by
  unfold cmpI
  split
  · exact ⟨fun h => absurd h (by omega), fun h => absurd h (by omega)⟩
  · split
    · exact ⟨fun h => absurd h (by omega), fun h => absurd h (by omega)⟩
    · exact ⟨fun _ => by omega, fun _ => rfl⟩
theorem orL_two (x : Int) (l : List Int) : orL (x :: l) < 0 ↔ x < 0 ∨ (x = 0 ∧ orL l < 0) := by
  have : orL (x :: l) = if x = 0 then orL l else x := rfl
  rw [this]
  by_cases h : x = 0
  · rw [if_pos h]
    exact ⟨fun k => .inr ⟨h, k⟩, fun k => k.elim (fun k => absurd k (by omega)) (·.2)⟩
  · rw [if_neg h]
    exact ⟨fun k => .inl k, fun k => k.elim id (fun k => absurd k.1 h)⟩
theorem orL_nil : ¬ orL [] < 0 := by
  have : orL [] = 0 := rfl
  rw [this]
  omega
theorem cmpS_zero (a b : Spo) : cmpS a b = 0 ↔ a.p = b.p ∧ a.s = b.s := by
  unfold cmpS
  have e : orL [cmpI a.p b.p, cmpI a.s b.s] = if cmpI a.p b.p = 0 then (if cmpI a.s b.s = 0 then 0 else cmpI a.s b.s) else cmpI a.p b.p := rfl
  rw [e]
  by_cases h1 : cmpI a.p b.p = 0
  · rw [if_pos h1]
    by_cases h2 : cmpI a.s b.s = 0
    · rw [if_pos h2]
      exact ⟨fun _ => ⟨cmpI_zero.1 h1, cmpI_zero.1 h2⟩, fun _ => rfl⟩
    · rw [if_neg h2]
      exact ⟨fun k => absurd k h2, fun k => absurd (cmpI_zero.2 k.2) h2⟩
  · rw [if_neg h1]
    exact ⟨fun k => absurd k h1, fun k => absurd (cmpI_zero.2 k.1) h1⟩
theorem cmpS_neg (a b : Spo) : cmpS a b < 0 ↔ a.p < b.p ∨ (a.p = b.p ∧ a.s < b.s) := by
  unfold cmpS
  rw [orL_two, orL_two, cmpI_neg, cmpI_neg, cmpI_zero]
  exact ⟨fun h => h.elim .inl (fun h => .inr ⟨h.1, h.2.elim id fun k => absurd k.2 orL_nil⟩), fun h => h.elim .inl (fun h => .inr ⟨h.1, .inl h.2⟩)⟩
def psI (s : Spo) : Int × Int := (s.p, s.s)
def ciI (x : Nat × Nat) : Int × Int := (x.1, x.2)
theorem cmp_less : ∀ (a b : List Spo) (A B : List (Nat × Nat)), a.map psI = A.map ciI → b.map psI = B.map ciI → a.length = b.length → (cmpSs a b < 0 ↔ lessL A B = true)
  | [], [], A, B, ha, _, _ => by
    have : A = [] := by simpa using ha.symm
    subst this
    simp [cmpSs, lessL]
  | [], _ :: _, _, _, _, _, h => by simp at h
  | _ :: _, [], _, _, _, _, h => by simp at h
  | x :: a, y :: b, [], _, ha, _, _ => by simp at ha
  | x :: a, y :: b, _ :: _, [], _, hb, _ => by simp at hb
  | x :: a, y :: b, (p, s) :: A, (q, t) :: B, ha, hb, hl => by
    simp only [List.map_cons, List.cons.injEq] at ha hb
    obtain ⟨hx, ha⟩ := ha
    obtain ⟨hy, hb⟩ := hb
    unfold psI ciI at hx hy
    simp only [Prod.mk.injEq] at hx hy
    have ih := cmp_less a b A B ha hb (by simpa using hl)
    simp only [cmpSs, lessL]
    by_cases hz : cmpS x y = 0
    · obtain ⟨z1, z2⟩ := (cmpS_zero x y).1 hz
      have e1 : p = q := by omega
      have e2 : s = t := by omega
      rw [if_neg (by simpa using hz), if_neg (by simpa using e1), if_neg (by simpa using e2)]
      exact ih
    · rw [if_pos hz, cmpS_neg]
      by_cases e1 : p = q
      · rw [if_neg (by simpa using e1)]
        have e2 : s ≠ t := fun e2 => hz ((cmpS_zero x y).2 ⟨by omega, by omega⟩)
        rw [if_pos e2, decide_eq_true_iff]
        omega
      · rw [if_pos e1, decide_eq_true_iff]
        omega
theorem spF_prs (K : Int) (ON : List Nat) (Y : List Int) : ∀ (S : List Nat) (l : List Ct) (X : List Int), S.length = l.length → (spF K ON Y (S.zip l) X).map psI = (prs S ON).map ciI
  | [], _, _, _ => by simp [spF, prs]
  | _ :: _, [], _, h => by simp at h
  | k :: S, c :: l, X, h => by
    simp only [List.zip_cons_cons, spF, prs, List.map_cons]
    rw [spF_prs K ON Y S l _ (by simpa using h)]
    rfl
theorem spots_prs (K : Int) (l : List Ct) (S ON : List Nat) (H : List Int) (u : Nat) (h : S.length = l.length) : (spotsF K l S ON H u).map psI = (prs S ON).map ciI := spF_prs K ON _ S l _ h
theorem spots_len (K : Int) (l : List Ct) (S ON : List Nat) (H : List Int) (u : Nat) (h : S.length = l.length) : (spotsF K l S ON H u).length = l.length := by
  unfold spotsF
  rw [spR_len]
  simp [h]
/-- The reference's best and the program's. -/
def RelB (P : Pt) (l : List Ct) (B : Bst) (R : RB) : Prop :=
  match R with
  | none => B = none
  | some (S, ON, n, h) => B = some (spotsF P.k l S ON (hrun [] S (l.map Ct.h)) (cntF ON), n, h) ∧ S.length = l.length ∧ RG 0 S ∧ ON.length = cntF S ∧ RG 0 ON ∧ hgtV P l S = some (hrun [] S (l.map Ct.h))
structure JobP (P : Pt) (l : List Ct) : Prop where
  k : 0 ≤ P.k
  c : ∀ c ∈ l, 0 < c.w ∧ c.w ≤ P.w ∧ 0 < c.h ∧ c.h ≤ P.h
theorem hgt_eq {P : Pt} {l : List Ct} (hj : JobP P l) {S : List Nat} (hg : RG 0 S) (hl : S.length = l.length) : hgtV P l S = if fitsM P.w (run P.k [] S (l.map Ct.w)) then some (hrun [] S (l.map Ct.h)) else none := by
  have := hgt_run P.k S l [] [] 0 (cntF S) rfl rfl hg hl (fun h hh => by cases hh) (fun x hx => (hj.c x hx).2.2.1) (by omega)
  simp only [List.nil_append] at this
  unfold hgtV
  rw [this]
theorem use_eq {P : Pt} {H : List Int} (hk : 0 ≤ P.k) (hH : ∀ h ∈ H, 0 < h) {ON : List Nat} (hg : RG 0 ON) (hl : ON.length = H.length) : useV P H ON = if fitsM P.h (run P.k [] ON H) then some (run P.k [] ON H) else none := by
  have := use_run hk ON H [] 0 (cntF ON) rfl hg hl (fun h hh => by cases hh) hH (by omega)
  simp only [List.nil_append] at this
  unfold useV
  rw [this]
theorem keep_step {P : Pt} {l : List Ct} {S ON : List Nat} {U : List Int} {B : Bst} {R : RB} (hS : S.length = l.length) (hg : RG 0 S) (hO : ON.length = cntF S) (hgo : RG 0 ON) (hh : hgtV P l S = some (hrun [] S (l.map Ct.h))) (hu : useV P (hrun [] S (l.map Ct.h)) ON = some U) (hul : U.length = cntF ON) (hR : RelB P l B R) :
    RelB P l (keepF P.k l S ON (hrun [] S (l.map Ct.h)) U B) (nstep P l S R ON) := by
  have hr : rankV P l S ON = some (((U.length : Nat) : Int), U.sum) := by unfold rankV; rw [hh]; simp only; rw [hu]
  unfold nstep
  rw [hr]
  match R, hR with
  | none, hR =>
    have hB : B = none := hR
    subst hB
    exact ⟨by simp only [keepF]; rw [hul], hS, hg, hO, hgo, hh⟩
  | some (S', ON', c, d), hR =>
    obtain ⟨rfl, h1, h2, h3, h4, h5⟩ := hR
    have hc := cmp_less _ _ _ _ (spots_prs P.k l S ON (hrun [] S (l.map Ct.h)) (cntF ON) hS) (spots_prs P.k l S' ON' (hrun [] S' (l.map Ct.h)) (cntF ON') h1) (by rw [spots_len _ _ _ _ _ _ hS, spots_len _ _ _ _ _ _ h1])
    have hi : orL [cmpI U.length c, cmpI U.sum d, cmpSs (spotsF P.k l S ON (hrun [] S (l.map Ct.h)) (cntF ON)) (spotsF P.k l S' ON' (hrun [] S' (l.map Ct.h)) (cntF ON'))] < 0 ↔ betB S ON ((U.length : Nat) : Int) U.sum S' ON' c d = true := by
      rw [orL_two, orL_two, orL_two, cmpI_neg, cmpI_neg, cmpI_zero, cmpI_zero, hc]
      unfold betB
      simp only [Bool.or_eq_true, Bool.and_eq_true, decide_eq_true_iff]
      constructor
      · rintro (h | ⟨h, h' | ⟨h', h'' | h''⟩⟩)
        · exact .inl (.inl h)
        · exact .inl (.inr ⟨h, h'⟩)
        · exact .inr ⟨⟨h, h'⟩, h''⟩
        · exact absurd h''.2 orL_nil
      · rintro ((h | ⟨h, h'⟩) | ⟨⟨h, h'⟩, h''⟩)
        · exact .inl h
        · exact .inr ⟨h, .inl h'⟩
        · exact .inr ⟨h, .inr ⟨h', .inl h''⟩⟩
    simp only [keepF, hul]
    rw [hul] at hi
    by_cases hb : betB S ON ((cntF ON : Nat) : Int) U.sum S' ON' c d = true
    · rw [if_pos (hi.2 hb), if_pos hb]
      exact ⟨rfl, hS, hg, hO, hgo, hh⟩
    · rw [if_neg (fun k => hb (hi.1 k)), if_neg hb]
      exact ⟨rfl, h1, h2, h3, h4, h5⟩
theorem fold_rel {α β γ : Type} (Q : β → γ → Prop) (f : β → α → β) (g : γ → α → γ) : ∀ (L : List α) (b : β) (c : γ), (∀ a ∈ L, ∀ b c, Q b c → Q (f b a) (g c a)) → Q b c → Q (L.foldl f b) (L.foldl g c)
  | [], _, _, _, h => h
  | a :: L, b, c, hs, h => by
    rw [List.foldl_cons, List.foldl_cons]
    exact fold_rel Q f g L _ _ (fun a' ha' => hs a' (by simp [ha'])) (hs a (by simp) b c h)
theorem fold_id {α γ : Type} (g : γ → α → γ) : ∀ (L : List α) (c : γ), (∀ a ∈ L, ∀ c, g c a = c) → L.foldl g c = c
  | [], _, _ => rfl
  | a :: L, c, h => by
    rw [List.foldl_cons, h a (by simp)]
    exact fold_id g L c fun a' ha' => h a' (by simp [ha'])
theorem stack_step' {P : Pt} {l : List Ct} (hj : JobP P l) {S : List Nat} (hg : RG 0 S) (hl : S.length = l.length) {B : Bst} {R : RB} (hR : RelB P l B R) :
    RelB P l (if fitsM P.w (run P.k [] S (l.map Ct.w)) then stackF P l S (hrun [] S (l.map Ct.h)) (hrun [] S (l.map Ct.h)) [] [] B else B) ((grpR (cntF S)).foldl (nstep P l S) R) := by
  have hq := hgt_eq hj hg hl
  by_cases hf : fitsM P.w (run P.k [] S (l.map Ct.w)) = true
  · rw [if_pos hf] at hq ⊢
    obtain ⟨hHl, hH⟩ := hrun_facts (M := P.h) S (l.map Ct.h) [] 0 rfl hg (by simpa using hl) (fun h hh => by cases hh) (fun x hx => by
      obtain ⟨c, hc, rfl⟩ := List.mem_map.1 hx
      exact (hj.c c hc).2.2)
    have hHl' : (hrun [] S (l.map Ct.h)).length = cntF S := by rw [hHl]; omega
    rw [stack_cand, cand_grp hj.k _ _ (fun x hx => by have := hH x hx; omega) rfl, List.foldl_filterMap, hHl', grp_eq]
    simp only [List.length_nil, List.nil_append]
    refine fold_rel (RelB P l) _ _ _ _ _ (fun ON hON b c hbc => ?_) hR
    obtain ⟨g1, g2⟩ := grpF_rg _ _ _ hON
    have hu := use_eq hj.k (fun h hh => (hH h hh).1) g1 (by rw [g2, hHl'])
    unfold candR
    by_cases hf2 : fitsM P.h (run P.k [] ON (hrun [] S (l.map Ct.h))) = true
    · rw [if_pos hf2] at hu ⊢
      exact keep_step hl hg g2 g1 hq hu (by simp only; rw [run_len _ _ _ _ 0 rfl g1 (by rw [g2, hHl'])]; omega) hbc
    · rw [if_neg hf2] at hu ⊢
      have hr : rankV P l S ON = none := by unfold rankV; rw [hq]; simp only; rw [hu]
      unfold nstep
      rw [hr]
      exact hbc
  · rw [if_neg hf] at hq ⊢
    rw [fold_id _ _ _ fun ON _ c => by
      have hr : rankV P l S ON = none := by unfold rankV; rw [hq]
      unfold nstep
      rw [hr]]
    exact hR
theorem cand_ne (M K : Int) : ∀ xs U, cand M K xs U ≠ []
  | [], U => by simp [cand]
  | x :: xs, U => by
    simp only [cand]
    intro h
    have := (List.append_eq_nil_iff.1 h).2
    exact cand_ne M K xs _ (List.map_eq_nil_iff.1 this)
theorem fold_some {α β : Type} (f : Option β → α → Option β) (h : ∀ b a, f b a ≠ none) : ∀ (L : List α) (b : Option β), L ≠ [] → L.foldl f b ≠ none
  | [], _, hn => absurd rfl hn
  | [a], b, _ => h b a
  | a :: a' :: L, b, _ => by
    rw [List.foldl_cons]
    exact fold_some f h (a' :: L) _ (by simp)
theorem shelves_some (P : Pt) (l : List Ct) : shelvesF P l l [] [] [] none ≠ none := by
  rw [shelves_cand P l l [] [] [] none rfl]
  refine fold_some _ (fun b c => ?_) _ _ (cand_ne _ _ _ _)
  rw [stack_cand]
  refine fold_some _ (fun b c => ?_) _ _ (cand_ne _ _ _ _)
  simp only [keepF]
  split
  · simp
  · split <;> simp
theorem nest_rel {P : Pt} {l : List Ct} (hj : JobP P l) : RelB P l (shelvesF P l l [] [] [] none) (nestR P l) := by
  rw [shelves_cand P l l [] [] [] none rfl, cand_grp hj.k _ _ (fun x hx => by
    obtain ⟨c, hc, rfl⟩ := List.mem_map.1 hx
    have := hj.c c hc
    omega) rfl, List.foldl_filterMap]
  unfold nestR
  rw [grp_eq]
  simp only [List.length_map, List.length_nil, List.nil_append]
  refine fold_rel (RelB P l) _ _ _ _ _ (fun S hS b c hbc => ?_) rfl
  obtain ⟨g1, g2⟩ := grpF_rg _ _ _ hS
  have := stack_step' hj g1 g2 hbc
  unfold candR
  by_cases hf : fitsM P.w (run P.k [] S (l.map Ct.w)) = true
  · rw [if_pos hf] at this ⊢
    exact this
  · rw [if_neg hf] at this ⊢
    exact this
/-- The reference finds a nest, and its spots are the program's. -/
theorem nest_ref {P : Pt} {l : List Ct} (hj : JobP P l) : ∃ S ON n h, nestR P l = some (S, ON, n, h) ∧ S.length = l.length ∧ RG 0 S ∧ ON.length = cntF S ∧ hgtV P l S = some (hrun [] S (l.map Ct.h)) ∧ (hrun [] S (l.map Ct.h)).length = cntF S ∧ nestF P l = spotsR P.k l S ON (hrun [] S (l.map Ct.h)) := by
  have h := nest_rel hj
  have hs := shelves_some P l
  unfold nestF
  match hR : nestR P l, h with
  | none, h => exact absurd h hs
  | some (S, ON, n, d), h =>
    obtain ⟨hB, h1, h2, h3, h4, h5⟩ := h
    obtain ⟨hHl, hH⟩ := hrun_facts (M := P.h) S (l.map Ct.h) [] 0 rfl h2 (by simpa using h1) (fun h hh => by cases hh) (fun x hx => by
      obtain ⟨c, hc, rfl⟩ := List.mem_map.1 hx
      exact (hj.c c hc).2.2)
    have hHl' : (hrun [] S (l.map Ct.h)).length = cntF S := by rw [hHl]; omega
    refine ⟨S, ON, n, d, rfl, h1, h2, h3, h5, hHl', ?_⟩
    rw [hB]
    exact spots_eq _ _ _ _ _ _ h1 (fun x hx => by rw [hHl']; exact cntF_lt x hx) (by rw [h3, hHl']) fun x hx => cntF_lt x hx
end Go.Proofs.Ytamjhpdgclbfgaa

namespace Go.Proofs.Ytamjhpdgclbfgaa
open Go.Sort

def ltB (l : List Ct) (x y : Nat) : Bool := decide (befF l x y < 0)
theorem befF_neg (l : List Ct) (x y : Nat) : befF l x y < 0 ↔ (l.getD y default).h < (l.getD x default).h ∨ ((l.getD y default).h = (l.getD x default).h ∧ ((l.getD y default).w < (l.getD x default).w ∨ ((l.getD y default).w = (l.getD x default).w ∧ x < y))) := by
  unfold befF
  rw [orL_two, orL_two, orL_two, cmpI_neg, cmpI_neg, cmpI_neg, cmpI_zero, cmpI_zero]
  constructor
  · rintro (h | ⟨h, h' | ⟨h', h'' | h''⟩⟩)
    · exact .inl h
    · exact .inr ⟨h, .inl h'⟩
    · exact .inr ⟨h, .inr ⟨h', by omega⟩⟩
    · exact absurd h''.2 orL_nil
  · rintro (h | ⟨h, h' | ⟨h', h''⟩⟩)
    · exact .inl h
    · exact .inr ⟨h, .inl h'⟩
    · exact .inr ⟨h, .inr ⟨h', .inl (by omega)⟩⟩
theorem ltB_swo (l : List Ct) : SWO (ltB l) where
  irrefl x := by
    unfold ltB
    rw [decide_eq_false_iff_not, befF_neg]
    omega
  trans x y z := by
    unfold ltB
    rw [decide_eq_true_iff, decide_eq_true_iff, decide_eq_true_iff, befF_neg, befF_neg, befF_neg]
    omega
  ntrans x y z := by
    unfold ltB
    rw [decide_eq_false_iff_not, decide_eq_false_iff_not, decide_eq_false_iff_not, befF_neg, befF_neg, befF_neg]
    omega
theorem ltB_total (l : List Ct) (x y : Nat) (h1 : ltB l x y = false) (h2 : ltB l y x = false) : x = y := by
  unfold ltB at h1 h2
  rw [decide_eq_false_iff_not, befF_neg] at h1 h2
  omega
theorem sorted_one {lt : Nat → Nat → Bool} {a : Nat} {d : Array Nat} : SortedIn lt a (a + 1) d := fun i j h1 h2 h3 => by omega
theorem rev_on {a b i j : Nat} {d dj : Array Nat} (ha : a ≤ i) (hij : i < j) (hj : j + 1 ≤ b) (hb : b ≤ d.size) (h : PermIn a b d dj) : PermIn a b d (swp dj i j) :=
  permIn_trans _ _ _ _ _ h (swp_permIn _ _ _ _ _ ha (by omega) (by omega) (by omega) (by rw [h.1]; exact hb))
end Go.Proofs.Ytamjhpdgclbfgaa

namespace Go.Proofs.Ytamjhpdgclbfgaa
open Go.Sort

section
variable {lt : Nat → Nat → Bool}
/-- What a round of pdqsort leaves open. -/
structure PdI (lt : Nat → Nat → Bool) (fa fb : Nat) (d0 : Array Nat) (a b : Nat) (d : Array Nat) : Prop where
  ha : fa ≤ a
  hab : a ≤ b
  hb : b ≤ fb
  hs : fb ≤ d.size
  perm : PermIn fa fb d0 d
  nd : d.toList.Nodup
  bel : Below lt a b d
  fin : ∀ R, PermIn a b d R → SortedIn lt a b R → SortedIn lt fa fb R
theorem permIn_nodup {a b : Nat} {d d' : Array Nat} (hb : b ≤ d.size) (h : PermIn a b d d') (hn : d.toList.Nodup) : d'.toList.Nodup := by
  have h0 := (permIn_mono d d' a b 0 d.size (by omega) hb (Nat.le_refl _) h).2.2
  rw [show d.extract 0 d.size = d by simp, show d'.extract 0 d.size = d' by rw [← h.1]; simp] at h0
  exact h0.nodup_iff.2 hn
theorem PdI.start {a b : Nat} {d : Array Nat} (hab : a ≤ b) (hs : b ≤ d.size) (hn : d.toList.Nodup) (hB : Below lt a b d) : PdI lt a b d a b d :=
  ⟨Nat.le_refl _, hab, Nat.le_refl _, hs, permIn_refl _ _ _, hn, hB, fun _ _ h => h⟩
theorem PdI.to {fa fb a b : Nat} {d0 d d' : Array Nat} (h : PdI lt fa fb d0 a b d) (hp : PermIn a b d d') : PdI lt fa fb d0 a b d' :=
  ⟨h.ha, h.hab, h.hb, by rw [hp.1]; exact h.hs, permIn_trans _ _ _ _ _ h.perm (permIn_mono _ _ a b fa fb h.ha h.hb h.hs hp), permIn_nodup (Nat.le_trans h.hb h.hs) hp h.nd, h.bel.perm (Nat.le_trans h.hb h.hs) hp, fun R h1 h2 => h.fin R (permIn_trans _ _ _ _ _ hp h1) h2⟩
theorem PdI.out {fa fb a b : Nat} {d0 d d' : Array Nat} (h : PdI lt fa fb d0 a b d) (hp : PermIn a b d d') (hso : SortedIn lt a b d') : PermIn fa fb d0 d' ∧ SortedIn lt fa fb d' :=
  ⟨(h.to hp).perm, h.fin d' hp hso⟩
theorem PdI.strict {fa fb a b p : Nat} {d0 d : Array Nat} (ht : ∀ x y, lt x y = false → lt y x = false → x = y) (h : PdI lt fa fb d0 a b d) (ha : 0 < a) (h1 : a ≤ p) (h2 : p < b) : lt d[a - 1]! d[p]! = true := by
  rcases h.bel with h0 | hB
  · omega
  cases hc : lt d[a - 1]! d[p]! with
  | true => rfl
  | false =>
    exfalso
    have he := ht _ _ hc (hB p h1 h2)
    have hs := h.hs
    have hb := h.hb
    have hn := h.nd
    rw [getElem!_pos d (a - 1) (by omega), getElem!_pos d p (by omega)] at he
    exact List.pairwise_iff_getElem.1 hn (a - 1) p (by simp; omega) (by simp; omega) (by omega) (by simpa using he)
theorem PdI.part {fa fb a b p mid : Nat} {ap : Bool} {d0 d d4 : Array Nat} (hS : SWO lt) (h : PdI lt fa fb d0 a b d) (h1 : a ≤ p) (h2 : p < b) (hx : partition lt d a b p = (mid, ap, d4)) :
    a ≤ mid ∧ mid < b ∧ b ≤ d4.size ∧ d4.toList.Nodup ∧ Below lt a mid d4 ∧ Below lt (mid + 1) b d4 ∧
    (∀ L, PermIn a mid d4 L → SortedIn lt a mid L → PdI lt fa fb d0 (mid + 1) b L) ∧ (∀ L, PermIn (mid + 1) b d4 L → SortedIn lt (mid + 1) b L → PdI lt fa fb d0 a mid L) := by
  have hbs : b ≤ d.size := Nat.le_trans h.hb h.hs
  obtain ⟨m1, m2, m3, m4, m5, m6, m7⟩ := round_part hS (partition_holds lt) h1 h2 hbs h.bel hx
  have hp4 : PermIn a b d d4 := by
    have := (partition_holds lt hS d a b p h1 h2 hbs).2.2.1
    rw [hx] at this
    exact this
  have h4 := h.to hp4
  have hb4 : b ≤ d4.size := by rw [m3]; exact hbs
  refine ⟨m1, m2, hb4, h4.nd, m4, m5, fun L hL sL => ?_, fun L hL sL => ?_⟩
  · obtain ⟨q1, q2⟩ := m6 L hL sL
    have hL' := permIn_mono _ _ a mid a b (Nat.le_refl _) (by omega) hb4 hL
    have h5 := h4.to hL'
    exact ⟨by have := h.ha; omega, by omega, h.hb, h5.hs, h5.perm, h5.nd, q1, fun R r1 r2 => h.fin R (q2 R r1 r2).1 (q2 R r1 r2).2⟩
  · obtain ⟨q1, q2⟩ := m7 L hL sL
    have hL' := permIn_mono _ _ (mid + 1) b a b (by omega) (Nat.le_refl _) hb4 hL
    have h5 := h4.to hL'
    exact ⟨h.ha, m1, by have := h.hb; omega, h5.hs, h5.perm, h5.nd, q1, fun R r1 r2 => h.fin R (q2 R r1 r2).1 (q2 R r1 r2).2⟩
theorem PdI.part2 {fa fb a b p : Nat} {d0 d : Array Nat} (hS : SWO lt) (h : PdI lt fa fb d0 a b d) (h1 : a ≤ p) (h2 : p < b) : ∃ mid d4, (partition lt d a b p).1 = mid ∧ (partition lt d a b p).2.2 = d4 ∧
    a ≤ mid ∧ mid < b ∧ b ≤ d4.size ∧ d4.toList.Nodup ∧ Below lt a mid d4 ∧ Below lt (mid + 1) b d4 ∧
    (∀ L, PermIn a mid d4 L → SortedIn lt a mid L → PdI lt fa fb d0 (mid + 1) b L) ∧ (∀ L, PermIn (mid + 1) b d4 L → SortedIn lt (mid + 1) b L → PdI lt fa fb d0 a mid L) := by
  obtain ⟨mid, hm⟩ : ∃ mid, (partition lt d a b p).1 = mid := ⟨_, rfl⟩
  obtain ⟨d4, hd⟩ : ∃ d4, (partition lt d a b p).2.2 = d4 := ⟨_, rfl⟩
  exact ⟨mid, d4, hm, hd, h.part (ap := (partition lt d a b p).2.1) hS h1 h2 (by rw [← hm, ← hd])⟩
end
theorem insF_perm (l : List Ct) (i : Nat) : ∀ r : List Nat, (insF l i r).Perm (i :: r)
  | [] => List.Perm.refl _
  | a :: r => by
    unfold insF
    split
    · exact ((insF_perm l i r).cons a).trans (List.Perm.swap i a r)
    · exact List.Perm.refl _
theorem insF_sorted (l : List Ct) (i : Nat) : ∀ r : List Nat, r.Pairwise (fun x y => ltB l y x = false) → (insF l i r).Pairwise (fun x y => ltB l y x = false)
  | [], _ => List.pairwise_singleton _ _
  | a :: r, h => by
    have h' := List.pairwise_cons.1 h
    unfold insF
    split
    · rename_i hc
      refine List.pairwise_cons.2 ⟨fun b hb => ?_, insF_sorted l i r h'.2⟩
      rcases List.mem_cons.1 ((insF_perm l i r).mem_iff.1 hb) with e | hb
      · rw [e]
        exact (ltB_swo l).asymm (show ltB l a i = true from decide_eq_true hc)
      · exact h'.1 b hb
    · rename_i hc
      have ha : ltB l a i = false := decide_eq_false hc
      refine List.pairwise_cons.2 ⟨fun b hb => ?_, h⟩
      rcases List.mem_cons.1 hb with e | hb
      · rw [e]
        exact ha
      · exact (ltB_swo l).ntrans _ a _ (h'.1 b hb) ha
theorem foldr_ins (l : List Ct) : ∀ (r acc : List Nat), acc.Pairwise (fun x y => ltB l y x = false) → (r.foldl (fun o i => insF l i o) acc).Perm (r ++ acc) ∧ (r.foldl (fun o i => insF l i o) acc).Pairwise (fun x y => ltB l y x = false)
  | [], acc, h => ⟨List.Perm.refl _, h⟩
  | i :: r, acc, h => by
    obtain ⟨h1, h2⟩ := foldr_ins l r (insF l i acc) (insF_sorted l i acc h)
    exact ⟨h1.trans (((insF_perm l i acc).append_left r).trans List.perm_middle), h2⟩
theorem ordF_perm (l : List Ct) : (ordF l).Perm (List.range l.length) := by
  have := (foldr_ins l (List.range l.length) [] List.Pairwise.nil).1
  rwa [List.append_nil] at this
theorem ordF_sorted (l : List Ct) : (ordF l).Pairwise (fun x y => ltB l y x = false) := (foldr_ins l (List.range l.length) [] List.Pairwise.nil).2
theorem sortedIn_list {lt : Nat → Nat → Bool} {r : List Nat} (h : r.Pairwise (fun x y => lt y x = false)) : SortedIn lt 0 r.length r.toArray := fun i j _ hij hj => by
  rw [getElem!_pos r.toArray i (by simp; omega), getElem!_pos r.toArray j (by simp; omega)]
  exact List.pairwise_iff_getElem.1 h i j (by omega) hj hij
theorem ord_unique {l : List Ct} {m : Nat} {d' : Array Nat} (hm : m = l.length) (hP : PermIn 0 m (List.range m).toArray d') (hS : SortedIn (ltB l) 0 m d') : d'.toList = ordF l := by
  subst hm
  have e : (List.range l.length).toArray.size = l.length := by simp
  have hl : (ordF l).length = l.length := by rw [(ordF_perm l).length_eq]; simp
  have h1 := sorted_unique_holds (ltB_swo l) (ltB_total l) (List.range l.length).toArray d' (by rw [e]; exact hP) (by rw [e]; exact hS)
  have h2 := sorted_unique_holds (ltB_swo l) (ltB_total l) (List.range l.length).toArray (ordF l).toArray (by
    rw [e]
    refine ⟨by simp [hl], fun i hi => ?_, ?_⟩
    · have hi : l.length ≤ i := by omega
      rw [getElem!_neg (ordF l).toArray i (by simp; omega), getElem!_neg (List.range l.length).toArray i (by simp; omega)]
    · rw [Array.toList_extract, Array.toList_extract]
      simp only [List.extract_eq_take_drop, List.drop_zero, Nat.sub_zero]
      rw [List.take_of_length_le (by simp [hl]), List.take_of_length_le (by simp)]
      exact ordF_perm l) (by rw [e, ← hl]; exact sortedIn_list (ordF_sorted l))
  rw [h1, ← h2]
end Go.Proofs.Ytamjhpdgclbfgaa
