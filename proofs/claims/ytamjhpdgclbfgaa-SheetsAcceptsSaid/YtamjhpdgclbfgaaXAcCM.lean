/- Chapter 09: the program's search and the reference's find the same nest: plain. · Chapter 09: spots that lie by shelves: apart, and accepted by Judge. Plain. · Chapter 09: what lies by shelves is a candidate of the search; the area. Plain. -/
import Derived.Test.YtamjhpdgclbfgaaXNsRM
import Derived.Test.YtamjhpdgclbfgaaXLibHwM
namespace Go.Proofs.Ytamjhpdgclbfgaa

theorem cmpI_neg {a b : Int} : cmpI a b < 0 ↔ a < b := by
  unfold cmpI
  split
  · exact ⟨fun _ => by assumption, fun _ => by omega⟩
  · split
    · exact ⟨fun h => absurd h (by omega), fun h => absurd h (by omega)⟩
    · exact ⟨fun h => absurd h (by omega), fun h => absurd h (by omega)⟩
theorem cmpI_zero {a b : Int} : cmpI a b = 0 ↔ a = b := by
  unfold cmpI
  split
  · exact ⟨fun h => absurd h (by omega), fun h => absurd h (by omega)⟩
  · split
    · exact ⟨fun h => absurd h (by omega), fun h => absurd h (by omega)⟩
    · exact ⟨fun _ => by omega, fun _ => rfl⟩
theorem orL_two (x : Int) (l : List Int) : orL (x :: l) < 0 ↔ x < 0 ∨ (x = 0 ∧ orL l < 0) := by
  have : orL (x :: l) = if x = 0 then orL l else x := rfl
  rw [this]
  by_cases h : x = 0
  · rw [if_pos h]
    exact ⟨fun k => .inr ⟨h, k⟩, fun k => k.elim (fun k => absurd k (by omega)) (·.2)⟩
  · rw [if_neg h]
    exact ⟨fun k => .inl k, fun k => k.elim id (fun k => absurd k.1 h)⟩
theorem orL_nil : ¬ orL [] < 0 := by
  have : orL [] = 0 := rfl
  rw [this]
  omega
theorem cmpS_zero (a b : Spo) : cmpS a b = 0 ↔ a.p = b.p ∧ a.s = b.s := by
  unfold cmpS
  have e : orL [cmpI a.p b.p, cmpI a.s b.s] = if cmpI a.p b.p = 0 then (if cmpI a.s b.s = 0 then 0 else cmpI a.s b.s) else cmpI a.p b.p := rfl
  rw [e]
  by_cases h1 : cmpI a.p b.p = 0
  · rw [if_pos h1]
    by_cases h2 : cmpI a.s b.s = 0
    · rw [if_pos h2]
      exact ⟨fun _ => ⟨cmpI_zero.1 h1, cmpI_zero.1 h2⟩, fun _ => rfl⟩
    · rw [if_neg h2]
      exact ⟨fun k => absurd k h2, fun k => absurd (cmpI_zero.2 k.2) h2⟩
  · rw [if_neg h1]
    exact ⟨fun k => absurd k h1, fun k => absurd (cmpI_zero.2 k.1) h1⟩
theorem cmpS_neg (a b : Spo) : cmpS a b < 0 ↔ a.p < b.p ∨ (a.p = b.p ∧ a.s < b.s) := by
  unfold cmpS
  rw [orL_two, orL_two, cmpI_neg, cmpI_neg, cmpI_zero]
  exact ⟨fun h => h.elim .inl (fun h => .inr ⟨h.1, h.2.elim id fun k => absurd k.2 orL_nil⟩), fun h => h.elim .inl (fun h => .inr ⟨h.1, .inl h.2⟩)⟩
def psI (s : Spo) : Int × Int := (s.p, s.s)
def ciI (x : Nat × Nat) : Int × Int := (x.1, x.2)
theorem cmp_less : ∀ (a b : List Spo) (A B : List (Nat × Nat)), a.map psI = A.map ciI → b.map psI = B.map ciI → a.length = b.length → (cmpSs a b < 0 ↔ lessL A B = true)
  | [], [], A, B, ha, _, _ => by
    have : A = [] := by simpa using ha.symm
    subst this
    simp [cmpSs, lessL]
  | [], _ :: _, _, _, _, _, h => by simp at h
  | _ :: _, [], _, _, _, _, h => by simp at h
  | x :: a, y :: b, [], _, ha, _, _ => by simp at ha
  | x :: a, y :: b, _ :: _, [], _, hb, _ => by simp at hb
  | x :: a, y :: b, (p, s) :: A, (q, t) :: B, ha, hb, hl => by
    simp only [List.map_cons, List.cons.injEq] at ha hb
    obtain ⟨hx, ha⟩ := ha
    obtain ⟨hy, hb⟩ := hb
    unfold psI ciI at hx hy
    simp only [Prod.mk.injEq] at hx hy
    have ih := cmp_less a b A B ha hb (by simpa using hl)
    simp only [cmpSs, lessL]
    by_cases hz : cmpS x y = 0
    · obtain ⟨z1, z2⟩ := (cmpS_zero x y).1 hz
      have e1 : p = q := by omega
      have e2 : s = t := by omega
      rw [if_neg (by simpa using hz), if_neg (by simpa using e1), if_neg (by simpa using e2)]
      exact ih
    · rw [if_pos hz, cmpS_neg]
      by_cases e1 : p = q
      · rw [if_neg (by simpa using e1)]
        have e2 : s ≠ t := fun e2 => hz ((cmpS_zero x y).2 ⟨by omega, by omega⟩)
        rw [if_pos e2, decide_eq_true_iff]
        omega
      · rw [if_pos e1, decide_eq_true_iff]
        omega
theorem spF_prs (K : Int) (ON : List Nat) (Y : List Int) : ∀ (S : List Nat) (l : List Ct) (X : List Int), S.length = l.length → (spF K ON Y (S.zip l) X).map psI = (prs S ON).map ciI
  | [], _, _, _ => by simp [spF, prs]
  | _ :: _, [], _, h => by simp at h
  | k :: S, c :: l, X, h => by
    simp only [List.zip_cons_cons, spF, prs, List.map_cons]
    rw [spF_prs K ON Y S l _ (by simpa using h)]
    rfl
theorem spots_prs (K : Int) (l : List Ct) (S ON : List Nat) (H : List Int) (u : Nat) (h : S.length = l.length) : (spotsF K l S ON H u).map psI = (prs S ON).map ciI := spF_prs K ON _ S l _ h
theorem spots_len (K : Int) (l : List Ct) (S ON : List Nat) (H : List Int) (u : Nat) (h : S.length = l.length) : (spotsF K l S ON H u).length = l.length := by
  unfold spotsF
  rw [spR_len]
  simp [h]
/-- The reference's best and the program's. -/
def RelB (P : Pt) (l : List Ct) (B : Bst) (R : RB) : Prop :=
  match R with
  | none => B = none
  | some (S, ON, n, h) => B = some (spotsF P.k l S ON (hrun [] S (l.map Ct.h)) (cntF ON), n, h) ∧ S.length = l.length ∧ RG 0 S ∧ ON.length = cntF S ∧ RG 0 ON ∧ hgtV P l S = some (hrun [] S (l.map Ct.h))
structure JobP (P : Pt) (l : List Ct) : Prop where
  k : 0 ≤ P.k
  c : ∀ c ∈ l, 0 < c.w ∧ c.w ≤ P.w ∧ 0 < c.h ∧ c.h ≤ P.h
theorem hgt_eq {P : Pt} {l : List Ct} (hj : JobP P l) {S : List Nat} (hg : RG 0 S) (hl : S.length = l.length) : hgtV P l S = if fitsM P.w (run P.k [] S (l.map Ct.w)) then some (hrun [] S (l.map Ct.h)) else none := by
  have := hgt_run P.k S l [] [] 0 (cntF S) rfl rfl hg hl (fun h hh => by cases hh) (fun x hx => (hj.c x hx).2.2.1) (by omega)
  simp only [List.nil_append] at this
  unfold hgtV
  rw [this]
theorem use_eq {P : Pt} {H : List Int} (hk : 0 ≤ P.k) (hH : ∀ h ∈ H, 0 < h) {ON : List Nat} (hg : RG 0 ON) (hl : ON.length = H.length) : useV P H ON = if fitsM P.h (run P.k [] ON H) then some (run P.k [] ON H) else none := by
  have := use_run hk ON H [] 0 (cntF ON) rfl hg hl (fun h hh => by cases hh) hH (by omega)
  simp only [List.nil_append] at this
  unfold useV
  rw [this]
theorem keep_step {P : Pt} {l : List Ct} {S ON : List Nat} {U : List Int} {B : Bst} {R : RB} (hS : S.length = l.length) (hg : RG 0 S) (hO : ON.length = cntF S) (hgo : RG 0 ON) (hh : hgtV P l S = some (hrun [] S (l.map Ct.h))) (hu : useV P (hrun [] S (l.map Ct.h)) ON = some U) (hul : U.length = cntF ON) (hR : RelB P l B R) :
    RelB P l (keepF P.k l S ON (hrun [] S (l.map Ct.h)) U B) (nstep P l S R ON) := by
  have hr : rankV P l S ON = some (((U.length : Nat) : Int), U.sum) := by unfold rankV; rw [hh]; simp only; rw [hu]
  unfold nstep
  rw [hr]
  match R, hR with
  | none, hR =>
    have hB : B = none := hR
    subst hB
    exact ⟨by simp only [keepF]; rw [hul], hS, hg, hO, hgo, hh⟩
  | some (S', ON', c, d), hR =>
    obtain ⟨rfl, h1, h2, h3, h4, h5⟩ := hR
    have hc := cmp_less _ _ _ _ (spots_prs P.k l S ON (hrun [] S (l.map Ct.h)) (cntF ON) hS) (spots_prs P.k l S' ON' (hrun [] S' (l.map Ct.h)) (cntF ON') h1) (by rw [spots_len _ _ _ _ _ _ hS, spots_len _ _ _ _ _ _ h1])
    have hi : orL [cmpI U.length c, cmpI U.sum d, cmpSs (spotsF P.k l S ON (hrun [] S (l.map Ct.h)) (cntF ON)) (spotsF P.k l S' ON' (hrun [] S' (l.map Ct.h)) (cntF ON'))] < 0 ↔ betB S ON ((U.length : Nat) : Int) U.sum S' ON' c d = true := by
      rw [orL_two, orL_two, orL_two, cmpI_neg, cmpI_neg, cmpI_zero, cmpI_zero, hc]
      unfold betB
      simp only [Bool.or_eq_true, Bool.and_eq_true, decide_eq_true_iff]
      constructor
      · rintro (h | ⟨h, h' | ⟨h', h'' | h''⟩⟩)
        · exact .inl (.inl h)
        · exact .inl (.inr ⟨h, h'⟩)
        · exact .inr ⟨⟨h, h'⟩, h''⟩
        · exact absurd h''.2 orL_nil
      · rintro ((h | ⟨h, h'⟩) | ⟨⟨h, h'⟩, h''⟩)
        · exact .inl h
        · exact .inr ⟨h, .inl h'⟩
        · exact .inr ⟨h, .inr ⟨h', .inl h''⟩⟩
    simp only [keepF, hul]
    rw [hul] at hi
    by_cases hb : betB S ON ((cntF ON : Nat) : Int) U.sum S' ON' c d = true
    · rw [if_pos (hi.2 hb), if_pos hb]
      exact ⟨rfl, hS, hg, hO, hgo, hh⟩
    · rw [if_neg (fun k => hb (hi.1 k)), if_neg hb]
      exact ⟨rfl, h1, h2, h3, h4, h5⟩
theorem fold_rel {α β γ : Type} (Q : β → γ → Prop) (f : β → α → β) (g : γ → α → γ) : ∀ (L : List α) (b : β) (c : γ), (∀ a ∈ L, ∀ b c, Q b c → Q (f b a) (g c a)) → Q b c → Q (L.foldl f b) (L.foldl g c)
  | [], _, _, _, h => h
  | a :: L, b, c, hs, h => by
    rw [List.foldl_cons, List.foldl_cons]
    exact fold_rel Q f g L _ _ (fun a' ha' => hs a' (by simp [ha'])) (hs a (by simp) b c h)
theorem fold_id {α γ : Type} (g : γ → α → γ) : ∀ (L : List α) (c : γ), (∀ a ∈ L, ∀ c, g c a = c) → L.foldl g c = c
  | [], _, _ => rfl
  | a :: L, c, h => by
    rw [List.foldl_cons, h a (by simp)]
    exact fold_id g L c fun a' ha' => h a' (by simp [ha'])
theorem stack_step' {P : Pt} {l : List Ct} (hj : JobP P l) {S : List Nat} (hg : RG 0 S) (hl : S.length = l.length) {B : Bst} {R : RB} (hR : RelB P l B R) :
    RelB P l (if fitsM P.w (run P.k [] S (l.map Ct.w)) then stackF P l S (hrun [] S (l.map Ct.h)) (hrun [] S (l.map Ct.h)) [] [] B else B) ((grpR (cntF S)).foldl (nstep P l S) R) := by
  have hq := hgt_eq hj hg hl
  by_cases hf : fitsM P.w (run P.k [] S (l.map Ct.w)) = true
  · rw [if_pos hf] at hq ⊢
    obtain ⟨hHl, hH⟩ := hrun_facts (M := P.h) S (l.map Ct.h) [] 0 rfl hg (by simpa using hl) (fun h hh => by cases hh) (fun x hx => by
      obtain ⟨c, hc, rfl⟩ := List.mem_map.1 hx
      exact (hj.c c hc).2.2)
    have hHl' : (hrun [] S (l.map Ct.h)).length = cntF S := by rw [hHl]; omega
    rw [stack_cand, cand_grp hj.k _ _ (fun x hx => by have := hH x hx; omega) rfl, List.foldl_filterMap, hHl', grp_eq]
    simp only [List.length_nil, List.nil_append]
    refine fold_rel (RelB P l) _ _ _ _ _ (fun ON hON b c hbc => ?_) hR
    obtain ⟨g1, g2⟩ := grpF_rg _ _ _ hON
    have hu := use_eq hj.k (fun h hh => (hH h hh).1) g1 (by rw [g2, hHl'])
    unfold candR
    by_cases hf2 : fitsM P.h (run P.k [] ON (hrun [] S (l.map Ct.h))) = true
    · rw [if_pos hf2] at hu ⊢
      exact keep_step hl hg g2 g1 hq hu (by simp only; rw [run_len _ _ _ _ 0 rfl g1 (by rw [g2, hHl'])]; omega) hbc
    · rw [if_neg hf2] at hu ⊢
      have hr : rankV P l S ON = none := by unfold rankV; rw [hq]; simp only; rw [hu]
      unfold nstep
      rw [hr]
      exact hbc
  · rw [if_neg hf] at hq ⊢
    rw [fold_id _ _ _ fun ON _ c => by
      have hr : rankV P l S ON = none := by unfold rankV; rw [hq]
      unfold nstep
      rw [hr]]
    exact hR
theorem cand_ne (M K : Int) : ∀ xs U, cand M K xs U ≠ []
  | [], U => by simp [cand]
  | x :: xs, U => by
    simp only [cand]
    intro h
    have := (List.append_eq_nil_iff.1 h).2
    exact cand_ne M K xs _ (List.map_eq_nil_iff.1 this)
theorem fold_some {α β : Type} (f : Option β → α → Option β) (h : ∀ b a, f b a ≠ none) : ∀ (L : List α) (b : Option β), L ≠ [] → L.foldl f b ≠ none
  | [], _, hn => absurd rfl hn
  | [a], b, _ => h b a
  | a :: a' :: L, b, _ => by
    rw [List.foldl_cons]
    exact fold_some f h (a' :: L) _ (by simp)
theorem shelves_some (P : Pt) (l : List Ct) : shelvesF P l l [] [] [] none ≠ none := by
  rw [shelves_cand P l l [] [] [] none rfl]
  refine fold_some _ (fun b c => ?_) _ _ (cand_ne _ _ _ _)
  rw [stack_cand]
  refine fold_some _ (fun b c => ?_) _ _ (cand_ne _ _ _ _)
  simp only [keepF]
  split
  · simp
  · split <;> simp
theorem nest_rel {P : Pt} {l : List Ct} (hj : JobP P l) : RelB P l (shelvesF P l l [] [] [] none) (nestR P l) := by
  rw [shelves_cand P l l [] [] [] none rfl, cand_grp hj.k _ _ (fun x hx => by
    obtain ⟨c, hc, rfl⟩ := List.mem_map.1 hx
    have := hj.c c hc
    omega) rfl, List.foldl_filterMap]
  unfold nestR
  rw [grp_eq]
  simp only [List.length_map, List.length_nil, List.nil_append]
  refine fold_rel (RelB P l) _ _ _ _ _ (fun S hS b c hbc => ?_) rfl
  obtain ⟨g1, g2⟩ := grpF_rg _ _ _ hS
  have := stack_step' hj g1 g2 hbc
  unfold candR
  by_cases hf : fitsM P.w (run P.k [] S (l.map Ct.w)) = true
  · rw [if_pos hf] at this ⊢
    exact this
  · rw [if_neg hf] at this ⊢
    exact this
/-- The reference finds a nest, and its spots are the program's. -/
theorem nest_ref {P : Pt} {l : List Ct} (hj : JobP P l) : ∃ S ON n h, nestR P l = some (S, ON, n, h) ∧ S.length = l.length ∧ RG 0 S ∧ ON.length = cntF S ∧ hgtV P l S = some (hrun [] S (l.map Ct.h)) ∧ (hrun [] S (l.map Ct.h)).length = cntF S ∧ nestF P l = spotsR P.k l S ON (hrun [] S (l.map Ct.h)) := by
  have h := nest_rel hj
  have hs := shelves_some P l
  unfold nestF
  match hR : nestR P l, h with
  | none, h => exact absurd h hs
  | some (S, ON, n, d), h =>
    obtain ⟨hB, h1, h2, h3, h4, h5⟩ := h
    obtain ⟨hHl, hH⟩ := hrun_facts (M := P.h) S (l.map Ct.h) [] 0 rfl h2 (by simpa using h1) (fun h hh => by cases hh) (fun x hx => by
      obtain ⟨c, hc, rfl⟩ := List.mem_map.1 hx
      exact (hj.c c hc).2.2)
    have hHl' : (hrun [] S (l.map Ct.h)).length = cntF S := by rw [hHl]; omega
    refine ⟨S, ON, n, d, rfl, h1, h2, h3, h5, hHl', ?_⟩
    rw [hB]
    exact spots_eq _ _ _ _ _ _ h1 (fun x hx => by rw [hHl']; exact cntF_lt x hx) (by rw [h3, hHl']) fun x hx => cntF_lt x hx
end Go.Proofs.Ytamjhpdgclbfgaa

namespace Go.Proofs.Ytamjhpdgclbfgaa

/-- How many plates are named. -/
def plF (at_ : List Spo) : Int := at_.foldl (fun n s => max n (s.p + 1)) 0
def clr (K : Int) (a b : Ct) (x y : Spo) : Bool := !(decide (x.p = y.p) && !decide (x.x + a.w + K ≤ y.x) && !decide (y.x + b.w + K ≤ x.x) && !decide (x.y + a.h + K ≤ y.y) && !decide (y.y + b.h + K ≤ x.y))
def onP (P : Pt) (c : Ct) (s : Spo) : Bool := !(decide (s.x < 0) || decide (s.y < 0) || decide (P.w < s.x + c.w) || decide (P.h < s.y + c.h))
/-- Do the spots lie on their plates, apart from each other? -/
def apV (P : Pt) (l : List Ct) (at_ : List Spo) : Bool := decide (at_.length = l.length) && (List.range l.length).all fun i => onP P (l.getD i default) (at_.getD i default) && (List.range i).all fun j => clr P.k (l.getD i default) (l.getD j default) (at_.getD i default) (at_.getD j default)
structure Shv (P : Pt) (l : List Ct) (at_ : List Spo) (m : Nat) (PP : Nat → Nat) (YY HH : Nat → Int) : Prop where
  len : at_.length = l.length
  mn : m ≤ l.length
  pn : ∀ k, k < m → PP k < l.length
  sp : ∀ i, i < l.length → ∃ k, k < m ∧ (at_.getD i default).p = (PP k : Nat) ∧ (at_.getD i default).s = (k : Nat) ∧ (at_.getD i default).y = YY k ∧ 0 ≤ (at_.getD i default).x ∧ (at_.getD i default).x + (l.getD i default).w ≤ P.w ∧ (l.getD i default).h ≤ HH k
  sep : ∀ i j, i < l.length → j < l.length → i ≠ j → (at_.getD i default).s = (at_.getD j default).s → (at_.getD i default).x + (l.getD i default).w + P.k ≤ (at_.getD j default).x ∨ (at_.getD j default).x + (l.getD j default).w + P.k ≤ (at_.getD i default).x
  yy : ∀ k, k < m → 0 ≤ YY k ∧ YY k + HH k ≤ P.h ∧ 0 ≤ HH k
  ysep : ∀ k k', k < m → k' < m → k ≠ k' → PP k = PP k' → YY k + HH k + P.k ≤ YY k' ∨ YY k' + HH k' + P.k ≤ YY k
  wid : ∀ k, k < m → ((List.range l.length).map fun i => if (at_.getD i default).s = (k : Nat) then (l.getD i default).w + P.k else 0).sum ≤ P.w + P.k
  ne : ∀ k, k < m → ∃ i, i < l.length ∧ (at_.getD i default).s = (k : Nat)
  hei : ∀ p, ((List.range m).map fun k => if PP k = p then HH k + P.k else 0).sum ≤ P.h + P.k
section
variable {P : Pt} {l : List Ct} {at_ : List Spo} {m : Nat} {PP : Nat → Nat} {YY HH : Nat → Int}
theorem Shv.on (h : Shv P l at_ m PP YY HH) {i : Nat} (hi : i < l.length) : (0 ≤ (at_.getD i default).x ∧ (at_.getD i default).x + (l.getD i default).w ≤ P.w) ∧ 0 ≤ (at_.getD i default).y ∧ (at_.getD i default).y + (l.getD i default).h ≤ P.h := by
  obtain ⟨k, hk, _, _, e, h1, h2, h3⟩ := h.sp i hi
  have := h.yy k hk
  omega
theorem Shv.pb (h : Shv P l at_ m PP YY HH) : ∀ s ∈ at_, 0 ≤ s.p ∧ s.p < l.length := fun s hs => by
  obtain ⟨i, hi⟩ := List.getElem?_of_mem hs
  have hil := (List.getElem?_eq_some_iff.1 hi).1
  rw [h.len] at hil
  obtain ⟨k, hk, e1, _⟩ := h.sp i hil
  have e : at_.getD i default = s := by
    rw [List.getD_eq_getElem?_getD, hi]
    rfl
  rw [e] at e1
  have := h.pn k hk
  omega
/-- Two spots lie apart. -/
theorem Shv.two (h : Shv P l at_ m PP YY HH) {i j : Nat} (hi : i < l.length) (hj : j < l.length) (hij : i ≠ j) (hp : (at_.getD i default).p = (at_.getD j default).p) :
    ((at_.getD i default).x + (l.getD i default).w + P.k ≤ (at_.getD j default).x ∨ (at_.getD j default).x + (l.getD j default).w + P.k ≤ (at_.getD i default).x) ∨ (at_.getD i default).y + (l.getD i default).h + P.k ≤ (at_.getD j default).y ∨ (at_.getD j default).y + (l.getD j default).h + P.k ≤ (at_.getD i default).y := by
  obtain ⟨k, hk, e1, e2, e3, _, _, e4⟩ := h.sp i hi
  obtain ⟨k', hk', f1, f2, f3, _, _, f4⟩ := h.sp j hj
  by_cases hkk : k = k'
  · subst hkk
    exact .inl (h.sep i j hi hj hij (by rw [e2, f2]))
  · have := h.ysep k k' hk hk' hkk (by rw [hp, f1] at e1; omega)
    omega
theorem Shv.apart (h : Shv P l at_ m PP YY HH) : apV P l at_ = true := by
  unfold apV
  rw [decide_eq_true h.len, Bool.true_and, List.all_eq_true]
  intro i hi
  have hi := List.mem_range.1 hi
  have ho := h.on hi
  rw [Bool.and_eq_true, List.all_eq_true]
  refine ⟨?_, fun j hj => ?_⟩
  · unfold onP
    rw [decide_eq_false (by omega), decide_eq_false (by omega), decide_eq_false (by omega), decide_eq_false (by omega)]
    rfl
  · have hj := List.mem_range.1 hj
    unfold clr
    by_cases hp : (at_.getD i default).p = (at_.getD j default).p
    · rcases h.two hi (by omega) (by omega) hp with (h1 | h1) | h1 | h1
      all_goals
        rw [decide_eq_true h1]
        simp
    · rw [decide_eq_false hp]
      rfl
theorem getD_zip {i : Nat} (hl : at_.length = l.length) (hi : i < l.length) : (l.zip at_)[i]? = some (l.getD i default, at_.getD i default) := by
  refine ju_zip_at ?_ ?_
  · rw [List.getD_eq_getElem?_getD, List.getElem?_eq_getElem hi]
    rfl
  · rw [List.getD_eq_getElem?_getD, List.getElem?_eq_getElem (by omega)]
    rfl
theorem Shv.judge (h : Shv P l at_ m PP YY HH) (hj : jchk P l 200 = 0) : judV P l at_ = 0 := by
  unfold judV
  rw [if_neg (by rw [hj]; simp), if_neg (by simpa using h.len)]
  have h1 : ((l.zip at_).any fun q => badS P l.length q.1 q.2) = false := by
    rw [List.any_eq_false]
    intro q hq
    obtain ⟨i, hi⟩ := List.getElem?_of_mem hq
    have hlt : i < l.length := by
      have := (List.getElem?_eq_some_iff.1 hi).1
      simp at this
      omega
    rw [getD_zip h.len hlt] at hi
    cases hi
    obtain ⟨k, hk, e1, e2, e3, e4, e5, e6⟩ := h.sp i hlt
    have ho := h.on hlt
    have := h.pn k hk
    have := h.mn
    unfold badS outB
    rw [decide_eq_false (by dsimp only; omega), decide_eq_false (by dsimp only; omega), decide_eq_false (by dsimp only; omega), decide_eq_false (by dsimp only; omega), decide_eq_false (by dsimp only; omega), decide_eq_false (by dsimp only; omega), decide_eq_false (by dsimp only; omega), decide_eq_false (by dsimp only; omega)]
    simp
  rw [h1, if_neg (by simp)]
  have h2 : (List.range l.length).any (lapI P.k (l.zip at_)) = false := by
    rw [List.any_eq_false]
    intro i hi
    have hi := List.mem_range.1 hi
    unfold lapI
    rw [getD_zip h.len hi]
    simp only [Bool.not_eq_true]
    rw [List.any_eq_false]
    intro r hr
    obtain ⟨j, hj⟩ := List.getElem?_of_mem hr
    rw [List.getElem?_take] at hj
    split at hj
    · rename_i hji
      rw [getD_zip h.len (by omega)] at hj
      cases hj
      rw [Bool.not_eq_true]
      refine lapB_no ?_
      dsimp only
      by_cases hp : (at_.getD i default).p = (at_.getD j default).p
      · rcases h.two hi (show j < l.length by omega) (by omega) hp with (h1 | h1) | h1 | h1
        · exact .inr (.inr (.inl h1))
        · exact .inr (.inl h1)
        · exact .inr (.inr (.inr (.inr h1)))
        · exact .inr (.inr (.inr (.inl h1)))
      · exact .inl hp
    · cases hj
  rw [h2]
  simp
end
end Go.Proofs.Ytamjhpdgclbfgaa

namespace Go.Proofs.Ytamjhpdgclbfgaa

/-! ### sums over lists -/
theorem sum_perm {L R : List Int} (h : L.Perm R) : L.sum = R.sum := by
  induction h with
  | nil => rfl
  | cons x _ ih => rw [List.sum_cons, List.sum_cons, ih]
  | swap x y _ => simp only [List.sum_cons]; omega
  | trans _ _ h1 h2 => rw [h1, h2]
theorem sum_le {α : Type} {f g : α → Int} : ∀ {L : List α}, (∀ a ∈ L, f a ≤ g a) → (L.map f).sum ≤ (L.map g).sum
  | [], _ => Int.le_refl _
  | a :: L, h => by
    have := h a (by simp)
    have := sum_le (L := L) fun b hb => h b (by simp [hb])
    simp only [List.map_cons, List.sum_cons]
    omega
theorem sum_nodup {W : Nat → Int} (hW : ∀ a, 0 ≤ W a) : ∀ (L R : List Nat), L.Nodup → (∀ a ∈ L, a ∈ R) → (L.map W).sum ≤ (R.map W).sum
  | [], R, _, _ => by
    induction R with
    | nil => exact Int.le_refl _
    | cons a R ih =>
      have := hW a
      simp only [List.map_nil, List.sum_nil, List.map_cons, List.sum_cons] at ih ⊢
      have := ih (by simp)
      omega
  | a :: L, R, hn, hs => by
    have hn' := List.nodup_cons.1 hn
    have hp := List.perm_cons_erase (hs a (by simp))
    have h2 := sum_nodup hW L (R.erase a) hn'.2 fun b hb => by
      have hne : b ≠ a := fun e => hn'.1 (e ▸ hb)
      exact (List.mem_erase_of_ne hne).2 (hs b (by simp [hb]))
    have h3 := sum_perm (hp.map W)
    rw [h3]
    simp only [List.map_cons, List.sum_cons]
    omega
theorem card_nodup (L R : List Nat) (hn : L.Nodup) (hs : ∀ a ∈ L, a ∈ R) : L.length ≤ R.length := by
  have h := sum_nodup (W := fun _ => 1) (fun _ => by omega) L R hn hs
  have e : ∀ L : List Nat, (L.map fun _ => (1 : Int)).sum = (L.length : Int) := fun L => by
    induction L with
    | nil => rfl
    | cons a L ih => simp only [List.map_cons, List.sum_cons, List.length_cons, ih]; omega
  rw [e, e] at h
  omega
theorem nodup_map_inj {f : Nat → Nat} : ∀ {L : List Nat}, L.Nodup → (∀ a ∈ L, ∀ b ∈ L, f a = f b → a = b) → (L.map f).Nodup
  | [], _, _ => List.nodup_nil
  | a :: L, hn, hf => by
    have hn' := List.nodup_cons.1 hn
    rw [List.map_cons, List.nodup_cons]
    refine ⟨fun h => ?_, nodup_map_inj hn'.2 fun x hx y hy => hf x (by simp [hx]) y (by simp [hy])⟩
    obtain ⟨b, hb, e⟩ := List.mem_map.1 h
    have := hf a (by simp) b (by simp [hb]) e.symm
    exact hn'.1 (this ▸ hb)
/-! ### numbering anew -/
theorem rg_grp : ∀ (S : List Nat) (m : Nat), RG m S → S ∈ grpF m S.length
  | [], m, _ => by simp [grpF]
  | k :: S, m, h => by
    simp only [List.length_cons, grpF, List.mem_flatMap, List.mem_map, List.mem_range]
    exact ⟨k, by have := h.1; omega, S, rg_grp S _ h.2, rfl⟩
theorem rg_snoc : ∀ (S : List Nat) (m k : Nat), RG m S → k ≤ max m (cntF S) → RG m (S ++ [k])
  | [], m, k, _, h => by
    simp [cntF] at h
    exact ⟨h, trivial⟩
  | a :: S, m, k, hg, h => by
    rw [cntF_cons] at h
    exact ⟨hg.1, rg_snoc S _ k hg.2 (by omega)⟩
theorem rg_mem : ∀ (S : List Nat) (m o : Nat), RG m S → m ≤ o → o < max m (cntF S) → o ∈ S
  | [], m, o, _, h1, h2 => by simp [cntF] at h2; omega
  | a :: S, m, o, hg, h1, h2 => by
    rw [cntF_cons] at h2
    by_cases h : o = a
    · simp [h]
    · have ha := hg.1
      exact List.mem_cons_of_mem _ (rg_mem S _ o hg.2 (by omega) (by omega))
/-- A list numbered anew by first occurrence. -/
theorem canon (S : List Nat) : ∃ (T : List Nat) (g : Nat → Nat), RG 0 T ∧ S = T.map g ∧ ∀ o o', o < cntF T → o' < cntF T → g o = g o' → o = o' := by
  generalize hn : S.length = n
  induction n generalizing S with
  | zero =>
    obtain rfl := List.length_eq_zero_iff.1 hn
    exact ⟨[], id, trivial, rfl, fun o o' h => by simp [cntF] at h⟩
  | succ n ih =>
    obtain ⟨S', a, rfl⟩ : ∃ S' a, S = S' ++ [a] := by
      rcases List.eq_nil_or_concat S with h | ⟨S', a, h⟩
      · rw [h] at hn; cases hn
      · exact ⟨S', a, by simpa using h⟩
    obtain ⟨T, g, h1, h2, h3⟩ := ih S' (by simpa using hn)
    by_cases hm : ∃ o, o < cntF T ∧ g o = a
    · obtain ⟨o, ho, hg⟩ := hm
      have hc : cntF (T ++ [o]) = cntF T := by rw [cntF_snoc]; omega
      refine ⟨T ++ [o], g, rg_snoc T 0 o h1 (by omega), by rw [List.map_append, h2, ← hg]; rfl, ?_⟩
      rw [hc]
      exact h3
    · have hc : cntF (T ++ [cntF T]) = cntF T + 1 := by rw [cntF_snoc]; omega
      refine ⟨T ++ [cntF T], fun o => if o = cntF T then a else g o, rg_snoc T 0 _ h1 (by omega), ?_, ?_⟩
      · rw [List.map_append, h2]
        congr 1
        · refine List.map_congr_left fun o ho => ?_
          have := cntF_lt o ho
          rw [if_neg (by omega)]
        · simp
      · rw [hc]
        intro o o' ho ho' he
        dsimp only at he
        by_cases e1 : o = cntF T
        · by_cases e2 : o' = cntF T
          · omega
          · exfalso
            rw [if_pos e1, if_neg e2] at he
            exact hm ⟨o', by omega, he.symm⟩
        · by_cases e2 : o' = cntF T
          · exfalso
            rw [if_neg e1, if_pos e2] at he
            exact hm ⟨o, by omega, he⟩
          · rw [if_neg e1, if_neg e2] at he
            exact h3 o o' (by omega) (by omega) he
/-! ### the totals of places -/
theorem tot_map {K : Int} {g : Nat → Nat} {o c : Nat} (hi : ∀ a b, a < c → b < c → g a = g b → a = b) (ho : o < c) : ∀ (T : List Nat) (xs : List Int), (∀ k ∈ T, k < c) → tot K ((T.map g).zip xs) (g o) = tot K (T.zip xs) o
  | [], _, _ => rfl
  | _ :: _, [], _ => rfl
  | k :: T, x :: xs, h => by
    simp only [List.map_cons, List.zip_cons_cons]
    rw [tot_cons, tot_cons, tot_map hi ho T xs fun a ha => h a (by simp [ha])]
    have hk := h k (by simp)
    by_cases e : k = o
    · simp only [e, if_true]
    · have : ¬ g k = g o := fun e2 => e (hi k o hk ho e2)
      simp only [e, this, if_false]
theorem run_tot {K : Int} : ∀ (S : List Nat) (xs U : List Int) (m o : Nat), U.length = m → RG m S → S.length = xs.length → o < max m (cntF S) → (run K U S xs).getD o 0 = (if o < m then U.getD o 0 else -K) + tot K (S.zip xs) o
  | [], [], U, m, o, hu, _, _, ho => by
    simp [cntF] at ho
    simp only [run, List.zip_nil_left]
    rw [if_pos ho]
    simp [tot]
  | k :: S, [], U, m, o, _, _, hl, _ => by simp at hl
  | [], x :: xs, U, m, o, _, _, hl, _ => by simp at hl
  | k :: S, x :: xs, U, m, o, hu, hg, hl, ho => by
    rw [cntF_cons] at ho
    simp only [run, List.zip_cons_cons]
    rw [tot_cons]
    have hkm := hg.1
    by_cases hk : k < U.length
    · rw [if_pos hk, run_tot S xs _ (max m (k + 1)) o (by rw [List.length_set]; omega) hg.2 (by simpa using hl) (by omega), set_getD _ _ _ _ hk]
      have hmm : max m (k + 1) = m := by omega
      rw [hmm]
      by_cases e : k = o
      · subst e
        rw [if_pos (by omega), if_pos rfl, if_pos (by omega), if_pos rfl]
        dsimp only
        omega
      · dsimp only
        rw [if_neg e, if_neg e]
        omega
    · have hke : k = m := by omega
      rw [if_neg hk, run_tot S xs _ (max m (k + 1)) o (by simp; omega) hg.2 (by simpa using hl) (by omega)]
      have hmm : max m (k + 1) = m + 1 := by omega
      rw [hmm]
      dsimp only
      by_cases e : k = o
      · subst e
        rw [if_pos (by omega), if_pos rfl, if_neg (by omega)]
        have e1 : (U ++ [x]).getD k 0 = x := by
          rw [List.getD_eq_getElem?_getD, List.getElem?_append_right (by omega), hke, ← hu]
          simp
        rw [e1]
        omega
      · rw [if_neg e]
        by_cases hom : o < m
        · rw [if_pos (by omega), if_pos hom, getD_left (by omega)]
          omega
        · rw [if_neg (by omega), if_neg hom]
          omega
/-- What a place bears at most is the bound's part. -/
theorem hrun_le {B : Nat → Int} : ∀ (S : List Nat) (xs H : List Int) (m : Nat), H.length = m → RG m S → S.length = xs.length → (∀ o, o < m → H.getD o 0 ≤ B o) → (∀ i, i < S.length → xs.getD i 0 ≤ B (S.getD i 0)) → ∀ o, o < max m (cntF S) → (hrun H S xs).getD o 0 ≤ B o
  | [], _, H, m, hh, _, _, hB, _, o, ho => by
    simp [cntF] at ho
    simp only [hrun]
    exact hB o ho
  | k :: S, [], H, m, _, _, hl, _, _, _, _ => by simp at hl
  | k :: S, x :: xs, H, m, hh, hg, hl, hB, hx, o, ho => by
    rw [cntF_cons] at ho
    have hkm := hg.1
    have hx0 : x ≤ B k := by simpa using hx 0 (by simp)
    have hxs : ∀ i, i < S.length → xs.getD i 0 ≤ B (S.getD i 0) := fun i hi => by simpa using hx (i + 1) (by simpa using hi)
    simp only [hrun]
    by_cases hk : k < H.length
    · rw [if_pos hk]
      refine hrun_le S xs _ (max m (k + 1)) (by rw [List.length_set]; omega) hg.2 (by simpa using hl) (fun p hp => ?_) hxs o (by omega)
      rw [set_getD _ _ _ _ hk]
      by_cases e : k = p
      · subst e
        rw [if_pos rfl]
        have := hB k (by omega)
        omega
      · rw [if_neg e]
        exact hB p (by omega)
    · have hke : k = m := by omega
      rw [if_neg hk]
      refine hrun_le S xs _ (max m (k + 1)) (by simp; omega) hg.2 (by simpa using hl) (fun p hp => ?_) hxs o (by omega)
      by_cases e : p = k
      · subst e
        have e1 : (H ++ [x]).getD p 0 = x := by
          rw [List.getD_eq_getElem?_getD, List.getElem?_append_right (by omega), hke, ← hh]
          simp
        rw [e1]
        exact hx0
      · rw [getD_left (by omega)]
        exact hB p (by omega)
theorem fits_of {M : Int} {U : List Int} (h : ∀ o, o < U.length → U.getD o 0 ≤ M) : fitsM M U = true := by
  unfold fitsM
  rw [List.all_eq_true]
  intro u hu
  obtain ⟨i, hi⟩ := List.getElem?_of_mem hu
  have hlt := (List.getElem?_eq_some_iff.1 hi).1
  have := h i hlt
  rw [List.getD_eq_getElem?_getD, hi] at this
  simpa using this
theorem tot_range {K : Int} (g : Nat → Nat) (H : List Int) (q : Nat) : ∀ (c : Nat), c ≤ H.length → tot K (((List.range c).map g).zip H) q = ((List.range c).map fun o => if g o = q then H.getD o 0 + K else 0).sum
  | 0, _ => by simp [tot]
  | c + 1, h => by
    rw [List.range_succ, List.map_append, List.map_append, List.sum_append, ← tot_range g H q c (by omega)]
    have e : ((List.range c).map g ++ [c].map g).zip H = ((List.range c).map g).zip H ++ [(g c, H.getD c 0)] := by
      refine List.ext_getElem? fun i => ?_
      rw [List.getElem?_append]
      have hl : (((List.range c).map g).zip H).length = c := by simp; omega
      rw [hl]
      by_cases hi : i < c
      · rw [if_pos hi]
        have hH : i < H.length := by omega
        have e1 : (((List.range c).map g ++ [c].map g).zip H)[i]? = some (g i, H[i]) := List.getElem?_zip_eq_some.2 ⟨by rw [List.getElem?_append_left (by simpa using hi)]; simp [hi], List.getElem?_eq_getElem hH⟩
        have e2 : (((List.range c).map g).zip H)[i]? = some (g i, H[i]) := List.getElem?_zip_eq_some.2 ⟨by simp [hi], List.getElem?_eq_getElem hH⟩
        rw [e1, e2]
      · rw [if_neg hi]
        by_cases he : i = c
        · subst he
          have hH : i < H.length := by omega
          have e1 : (((List.range i).map g ++ [i].map g).zip H)[i]? = some (g i, H[i]) := List.getElem?_zip_eq_some.2 ⟨by rw [List.getElem?_append_right (by simp)]; simp, List.getElem?_eq_getElem hH⟩
          rw [e1, List.getD_eq_getElem?_getD, List.getElem?_eq_getElem hH]
          simp
        · rw [List.getElem?_eq_none (by simp; omega), List.getElem?_eq_none (by simp; omega)]
    rw [e, tot_snoc]
    simp only [List.map_cons, List.map_nil, List.sum_cons, List.sum_nil]
    split <;> omega
end Go.Proofs.Ytamjhpdgclbfgaa
