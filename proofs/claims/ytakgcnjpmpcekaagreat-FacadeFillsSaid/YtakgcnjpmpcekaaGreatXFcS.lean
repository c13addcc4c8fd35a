/- Chapter 24: the fields of a division, and what it comes to: plain. -/
import Derived.Test.YtakgcnjpmpcekaaGreatXFcR
namespace Go.Proofs.YtakgcnjpmpcekaaGreat

/-- The group of a field; is it right of the middle? -/
def grpN (L i : Nat) : Nat := if 2 * i ≤ L - 1 then (L + 1) / 2 - 1 - i else i - L / 2
def rgtB (L i : Nat) : Bool := decide (L - 1 < 2 * i)
theorem grp_iff {L i k : Nat} (hi : i < L) (hk : k < (L + 1) / 2) : grpN L i = k ↔ i = lefN L k ∨ i = L - 1 - lefN L k := by
  unfold grpN lefN
  split <;> omega
theorem grp_lt {L i : Nat} (hi : i < L) : grpN L i < (L + 1) / 2 := by
  unfold grpN
  split <;> omega
theorem lef_lt {L k : Nat} (hk : k < (L + 1) / 2) : lefN L k < L ∧ L - 1 - lefN L k < L ∧ lefN L k ≤ L - 1 - lefN L k := by
  unfold lefN
  omega
theorem siz_one {L k : Nat} (h : sizN L k = 1) : L - 1 - lefN L k = lefN L k := by
  unfold sizN at h
  split at h
  · omega
  · omega
theorem siz_two {L k : Nat} (h : ¬ sizN L k = 1) : sizN L k = 2 ∧ lefN L k ≠ L - 1 - lefN L k := by
  unfold sizN at h ⊢
  split at h
  · omega
  · rename_i h2
    rw [if_neg h2]
    exact ⟨rfl, h2⟩
theorem rgt_left {L k : Nat} (hk : k < (L + 1) / 2) : rgtB L (lefN L k) = false := by
  unfold rgtB lefN
  rw [decide_eq_false_iff_not]
  omega
theorem rgt_right {L k : Nat} (h : ¬ sizN L k = 1) : rgtB L (L - 1 - lefN L k) = true := by
  have := (siz_two h).2
  unfold rgtB
  unfold lefN at *
  rw [decide_eq_true_eq]
  omega
/-- The first pipe of a group. -/
def atN (L : Nat) (ns : List Nat) : Nat → Nat
  | 0 => 0
  | k + 1 => atN L ns k + sizN L k * ns.getD k 0
def fldN (l : List Fc) (ns : List Nat) (i : Nat) : List Nat := (staN (ns.getD (grpN l.length i) 0) (l.getD i default).k (rgtB l.length i)).map fun x => atN l.length ns (grpN l.length i) + sizN l.length (grpN l.length i) * x + (if rgtB l.length i then 1 else 0)
/-- A division, by its numbers. -/
def planN (l : List Fc) (ns : List Nat) : List (List Nat) := (List.range l.length).map (fldN l ns)
def partN {β : Type} (L : Nat) (f : Nat → List β) (k : Nat) : List (List β) := (List.range L).map fun i => if grpN L i < k then f i else []
theorem part_zero {β : Type} (L : Nat) (f : Nat → List β) : partN L f 0 = List.replicate L [] := by
  unfold partN
  rw [List.eq_replicate_iff]
  simp
theorem part_all {β : Type} (L : Nat) (f : Nat → List β) : partN L f ((L + 1) / 2) = (List.range L).map f := by
  unfold partN
  refine List.map_congr_left fun i hi => ?_
  rw [if_pos (grp_lt (List.mem_range.1 hi))]
theorem part_get {β : Type} {L : Nat} (f : Nat → List β) (k : Nat) {i : Nat} (hi : i < L) : (partN L f k)[i]? = some (if grpN L i < k then f i else []) := by
  unfold partN
  rw [List.getElem?_map, List.getElem?_range hi]
  rfl
theorem part_len {β : Type} (L : Nat) (f : Nat → List β) (k : Nat) : (partN L f k).length = L := by
  unfold partN
  simp
theorem part_step {β : Type} {L k : Nat} (f : Nat → List β) (hk : k < (L + 1) / 2) : ((partN L f k).set (lefN L k) (f (lefN L k))).set (L - 1 - lefN L k) (f (L - 1 - lefN L k)) = partN L f (k + 1) := by
  have hl := lef_lt hk
  refine List.ext_getElem? fun i => ?_
  by_cases hi : i < L
  · have hg := grp_iff hi hk
    rw [part_get f (k + 1) hi, List.getElem?_set, List.length_set, part_len, List.getElem?_set, part_len, part_get f k hi]
    by_cases h1 : L - 1 - lefN L k = i
    · rw [if_pos h1, if_pos (by omega)]
      have := hg.2 (.inr h1.symm)
      rw [if_pos (by omega), h1]
    · rw [if_neg h1]
      by_cases h2 : lefN L k = i
      · rw [if_pos h2, if_pos (by omega)]
        have := hg.2 (.inl h2.symm)
        rw [if_pos (by omega), h2]
      · rw [if_neg h2]
        have : grpN L i ≠ k := fun e => by rcases hg.1 e with h | h <;> omega
        by_cases h3 : grpN L i < k
        · rw [if_pos h3, if_pos (by omega)]
        · rw [if_neg h3, if_neg (by omega)]
  · rw [List.getElem?_eq_none (by simp [part_len]; omega), List.getElem?_eq_none (by simp [part_len]; omega)]
theorem part_getD {β : Type} {L k : Nat} (f : Nat → List β) {i : Nat} (hi : i < L) (h : ¬ grpN L i < k) : (partN L f k).getD i [] = [] := by
  rw [List.getD_eq_getElem?_getD, part_get f k hi, if_neg h]
  rfl
theorem put_part (l : List Fc) (ns : List Nat) {k : Nat} (hk : k < (l.length + 1) / 2) : putN l k (atN l.length ns k) (ns.getD k 0) (partN l.length (fldN l ns) k) = partN l.length (fldN l ns) (k + 1) := by
  have hl := lef_lt hk
  have g1 := (grp_iff hl.1 hk).2 (.inl rfl)
  have g2 := (grp_iff hl.2.1 hk).2 (.inr rfl)
  have e1 : (staN (ns.getD k 0) (l.getD (lefN l.length k) default).k false).map (fun i => atN l.length ns k + sizN l.length k * i) = fldN l ns (lefN l.length k) := by
    unfold fldN
    rw [g1, rgt_left hk]
    rfl
  unfold putN
  (try dsimp only)
  rw [part_getD _ hl.1 (by omega), List.nil_append, e1, ← part_step _ hk]
  by_cases hs : sizN l.length k = 1
  · rw [if_pos hs, siz_one hs, List.set_set]
  · rw [if_neg hs]
    have hne := (siz_two hs).2
    have e2 : (staN (ns.getD k 0) (l.getD (l.length - 1 - lefN l.length k) default).k true).map (fun i => atN l.length ns k + sizN l.length k * i + 1) = fldN l ns (l.length - 1 - lefN l.length k) := by
      unfold fldN
      rw [g2, rgt_right hs]
      rfl
    have e3 : ((partN l.length (fldN l ns) k).set (lefN l.length k) (fldN l ns (lefN l.length k))).getD (l.length - 1 - lefN l.length k) [] = [] := by
      rw [List.getD_eq_getElem?_getD, List.getElem?_set, if_neg hne, part_get _ k hl.2.1, if_neg (by omega)]
      rfl
    rw [e3, List.nil_append, e2]
/-- The numbers that are the least, from group k on. -/
theorem std_part (l : List Fc) (r : List Int) (least v : Int) (ns : List Nat) : ∀ (j k : Nat), j + k = (l.length + 1) / 2 → ns.drop k = grN l r least v j (atN l.length ns k) → stdN l r least v j (atN l.length ns k) (partN l.length (fldN l ns) k) = planN l ns
  | 0, k, hjk, _ => by
    unfold stdN planN
    rw [show k = (l.length + 1) / 2 by omega, part_all]
  | j + 1, k, hjk, hd => by
    have hk : kN l j = k := by unfold kN; omega
    have hn : ns.getD k 0 = numN l r least v j (atN l.length ns k) := by
      rw [List.getD_eq_getElem?_getD, ← List.head?_drop, hd]
      rfl
    have hd2 : ns.drop (k + 1) = grN l r least v j (atN l.length ns (k + 1)) := by
      rw [← List.tail_drop, hd]
      show grN l r least v j _ = _
      rw [hk, atN, hn]
    have ih := std_part l r least v ns j (k + 1) (by omega) hd2
    rw [← put_part l ns (by omega)] at ih
    rw [stdN]
    (try dsimp only)
    rw [show (l.length + 1) / 2 - (j + 1) = k by omega, ← hn]
    exact ih
theorem std_plan (l : List Fc) (r : List Int) (least v : Int) : stdN l r least v ((l.length + 1) / 2) 0 (List.replicate l.length []) = planN l (grN l r least v ((l.length + 1) / 2) 0) := by
  have h := std_part l r least v (grN l r least v ((l.length + 1) / 2) 0) ((l.length + 1) / 2) 0 (by omega) rfl
  rw [part_zero] at h
  exact h

/-! ### what a division comes to -/
/-- Are these all pipes? -/
def dvN (L n : Nat) : Nat → Nat → List Nat → Bool
  | 0, at_, [] => decide (at_ = n)
  | 0, _, _ :: _ => false
  | _ + 1, _, [] => false
  | j + 1, at_, x :: ns => decide (1 ≤ x) && decide (at_ + sizN L ((L + 1) / 2 - (j + 1)) * x ≤ n) && dvN L n j (at_ + sizN L ((L + 1) / 2 - (j + 1)) * x) ns
theorem dv_len (L n : Nat) : ∀ (j at_ : Nat) (ns : List Nat), dvN L n j at_ ns = true → ns.length = j
  | 0, _, [], _ => rfl
  | 0, _, _ :: _, h => by cases h
  | _ + 1, _, [], h => by cases h
  | j + 1, at_, x :: ns, h => by
    simp only [dvN, Bool.and_eq_true] at h
    rw [List.length_cons, dv_len L n j _ ns h.2]
/-- A greatest value, told by its bounds. -/
def Sup (v : Int) (S : Int → Prop) : Prop := 0 ≤ v ∧ ∀ t, 0 ≤ t → (v ≤ t ↔ ∀ x, S x → x ≤ t)
theorem Sup.unique {v w : Int} {S T : Int → Prop} (h : Sup v S) (h' : Sup w T) (hST : ∀ x, S x ↔ T x) : v = w := by
  have h1 := (h.2 w h'.1).2 fun x hx => (h'.2 w h'.1).1 (Int.le_refl _) x ((hST x).1 hx)
  have h2 := (h'.2 v h.1).2 fun x hx => (h.2 v h.1).1 (Int.le_refl _) x ((hST x).2 hx)
  omega
theorem ggp_some (l : List Fc) (r : List Int) (least : Int) (k at_ n : Nat) : (ggpN l r least k at_ n).2 = true ↔ ∀ s, s < sizN l.length k → least ≤ sgpN l r k at_ n s := by
  unfold ggpN
  by_cases h : (List.range (sizN l.length k)).all (fun s => decide (least ≤ sgpN l r k at_ n s)) = true
  · rw [if_pos h]
    simp only [List.all_eq_true, List.mem_range, decide_eq_true_eq] at h
    exact ⟨fun _ => h, fun _ => rfl⟩
  · rw [if_neg h]
    simp only [List.all_eq_true, List.mem_range, decide_eq_true_eq] at h
    exact ⟨fun e => (by cases e), fun e => absurd e h⟩
theorem fold_max (f : Nat → Int) (t : Int) : ∀ (L : List Nat) (m : Int), L.foldl (fun m s => max m (f s)) m ≤ t ↔ m ≤ t ∧ ∀ s ∈ L, f s ≤ t
  | [], m => by simp
  | a :: L, m => by
    rw [List.foldl_cons, fold_max f t L, Int.max_le]
    simp only [List.mem_cons, forall_eq_or_imp]
    exact and_assoc
theorem fold_max_ge (f : Nat → Int) : ∀ (L : List Nat) (m : Int), m ≤ L.foldl (fun m s => max m (f s)) m
  | [], m => Int.le_refl _
  | a :: L, m => by
    rw [List.foldl_cons]
    have := fold_max_ge f L (max m (f a))
    omega
theorem ggp_sup (l : List Fc) (r : List Int) (least : Int) (k at_ n : Nat) (h : (ggpN l r least k at_ n).2 = true) : Sup (ggpN l r least k at_ n).1 fun x => ∃ s, s < sizN l.length k ∧ x = sgpN l r k at_ n s := by
  have h' := h
  unfold ggpN at h ⊢
  by_cases hc : (List.range (sizN l.length k)).all (fun s => decide (least ≤ sgpN l r k at_ n s)) = true
  · rw [if_pos hc]
    (try dsimp only)
    refine ⟨fold_max_ge _ _ _, fun t ht => ?_⟩
    rw [fold_max]
    simp only [List.mem_range]
    exact ⟨fun h x ⟨s, hs, e⟩ => e ▸ h.2 s hs, fun h => ⟨ht, fun s hs => h _ ⟨s, hs, rfl⟩⟩⟩
  · rw [if_neg hc] at h
    cases h
/-- The gaps of the groups from k on. -/
def gsN (l : List Fc) (r : List Int) (ns : List Nat) (k : Nat) (x : Int) : Prop := ∃ q s, k ≤ q ∧ q < (l.length + 1) / 2 ∧ s < sizN l.length q ∧ x = sgpN l r q (atN l.length ns q) (ns.getD q 0) s
theorem vl_spec (l : List Fc) (r : List Int) (least : Int) (ns : List Nat) : ∀ (j k : Nat), j + k = (l.length + 1) / 2 → match vlN l r least j (atN l.length ns k) (ns.drop k) with
    | none => ¬ (dvN l.length r.length j (atN l.length ns k) (ns.drop k) = true ∧ ∀ x, gsN l r ns k x → least ≤ x)
    | some v => dvN l.length r.length j (atN l.length ns k) (ns.drop k) = true ∧ (∀ x, gsN l r ns k x → least ≤ x) ∧ Sup v (gsN l r ns k)
  | 0, k, hjk => by
    cases hd : ns.drop k with
    | nil =>
      rw [vlN, dvN]
      by_cases h : atN l.length ns k = r.length
      · rw [if_pos h]
        (try dsimp only)
        refine ⟨by simpa using h, fun x ⟨q, s, h1, h2, _⟩ => by omega, Int.le_refl _, fun t ht => ⟨fun _ x ⟨q, s, h1, h2, _⟩ => by omega, fun _ => ht⟩⟩
      · rw [if_neg h]
        (try dsimp only)
        intro h'
        exact h (by simpa using h'.1)
    | cons a b =>
      rw [vlN, dvN]
      (try dsimp only)
      intro h
      cases h.1
  | j + 1, k, hjk => by
    have hkk : kN l j = k := by unfold kN; omega
    have hk' : (l.length + 1) / 2 - (j + 1) = k := by omega
    cases hd : ns.drop k with
    | nil =>
      rw [vlN, dvN]
      (try dsimp only)
      intro h
      cases h.1
    | cons a b =>
      have ha : ns.getD k 0 = a := by
        rw [List.getD_eq_getElem?_getD, ← List.head?_drop, hd]
        rfl
      have hb : ns.drop (k + 1) = b := by rw [← List.tail_drop, hd]; rfl
      have hat : atN l.length ns (k + 1) = atN l.length ns k + sizN l.length k * a := by rw [atN, ha]
      have ih := vl_spec l r least ns j (k + 1) (by omega)
      rw [hb, hat] at ih
      rw [vlN, dvN, hkk, hk']
      have hsplit : ∀ x, gsN l r ns k x ↔ (∃ s, s < sizN l.length k ∧ x = sgpN l r k (atN l.length ns k) a s) ∨ gsN l r ns (k + 1) x := fun x => by
        constructor
        · rintro ⟨q, s, h1, h2, h3, h4⟩
          by_cases hq : q = k
          · subst hq
            rw [ha] at h4
            exact .inl ⟨s, h3, h4⟩
          · exact .inr ⟨q, s, by omega, h2, h3, h4⟩
        · rintro (⟨s, h3, h4⟩ | ⟨q, s, h1, h2, h3, h4⟩)
          · exact ⟨k, s, Nat.le_refl _, by omega, h3, by rw [ha]; exact h4⟩
          · exact ⟨q, s, by omega, h2, h3, h4⟩
      by_cases hc : 1 ≤ a ∧ atN l.length ns k + sizN l.length k * a ≤ r.length ∧ (ggpN l r least k (atN l.length ns k) a).2 = true
      · rw [if_pos hc, decide_eq_true hc.1, decide_eq_true hc.2.1]
        simp only [Bool.true_and]
        have g1 := (ggp_some l r least k _ a).1 hc.2.2
        have g2 := ggp_sup l r least k _ a hc.2.2
        cases hv : vlN l r least j (atN l.length ns k + sizN l.length k * a) b with
        | none =>
          rw [hv] at ih
          dsimp only [Option.map_none] at ih ⊢
          intro h
          exact ih ⟨h.1, fun x hx => h.2 x ((hsplit x).2 (.inr hx))⟩
        | some v =>
          rw [hv] at ih
          dsimp only [Option.map_some] at ih ⊢
          refine ⟨ih.1, fun x hx => ?_, ?_, fun t ht => ?_⟩
          · rcases (hsplit x).1 hx with ⟨s, hs, e⟩ | hx
            · rw [e]; exact g1 s hs
            · exact ih.2.1 x hx
          · have := g2.1
            have := ih.2.2.1
            omega
          · rw [Int.max_le, g2.2 t ht, ih.2.2.2 t ht]
            exact ⟨fun h x hx => ((hsplit x).1 hx).elim (h.1 x) (h.2 x), fun h => ⟨fun x hx => h x ((hsplit x).2 (.inl hx)), fun x hx => h x ((hsplit x).2 (.inr hx))⟩⟩
      · rw [if_neg hc]
        (try dsimp only)
        intro h
        simp only [Bool.and_eq_true, decide_eq_true_eq] at h
        exact hc ⟨h.1.1.1, h.1.1.2, (ggp_some l r least k _ a).2 fun s hs => h.2 _ ((hsplit _).2 (.inl ⟨s, hs, rfl⟩))⟩

/-! ### the document's measure of a plan -/
def gfN (l : List Fc) (r : List Int) (plan : List (List Nat)) (i : Nat) : Int := gapN (l.getD i default).w ((plan.getD i []).map fun p => r.getD p 0)
def widS (q : Option (Int × Int)) (g : Int) : Option (Int × Int) := match q with
  | none => none
  | some p => if g < 0 then none else some (max p.1 g, min p.2 g)
def widN (l : List Fc) (r : List Int) (plan : List (List Nat)) : Option (Int × Int) := (List.range l.length).foldl (fun q i => widS q (gfN l r plan i)) (some (0, 10000000))
theorem wid_none : ∀ (f : Nat → Int) (L : List Nat), L.foldl (fun q i => widS q (f i)) none = none
  | _, [] => rfl
  | f, a :: L => by rw [List.foldl_cons]; exact wid_none f L
theorem wid_fold (f : Nat → Int) : ∀ (L : List Nat) (m lo : Int), 0 ≤ m → match L.foldl (fun q i => widS q (f i)) (some (m, lo)) with
    | none => ∃ i ∈ L, f i < 0
    | some (m', lo') => (∀ i ∈ L, 0 ≤ f i) ∧ 0 ≤ m' ∧ (∀ t, m' ≤ t ↔ m ≤ t ∧ ∀ i ∈ L, f i ≤ t) ∧ ∀ t, t ≤ lo' ↔ t ≤ lo ∧ ∀ i ∈ L, t ≤ f i
  | [], m, lo, h => by simp [h]
  | a :: L, m, lo, h => by
    rw [List.foldl_cons]
    by_cases ha : f a < 0
    · have : widS (some (m, lo)) (f a) = none := by unfold widS; simp [ha]
      rw [this, wid_none]
      exact ⟨a, by simp, ha⟩
    · have : widS (some (m, lo)) (f a) = some (max m (f a), min lo (f a)) := by unfold widS; simp [ha]
      rw [this]
      have ih := wid_fold f L (max m (f a)) (min lo (f a)) (by omega)
      split at ih
      · rename_i he
        (try rw [he])
        obtain ⟨i, hi, hf⟩ := ih
        exact ⟨i, by simp [hi], hf⟩
      · rename_i m' lo' he
        (try rw [he])
        obtain ⟨i1, i2, i3, i4⟩ := ih
        (try dsimp only)
        refine ⟨fun i hi => ?_, i2, fun t => ?_, fun t => ?_⟩
        · rcases List.mem_cons.1 hi with rfl | hi
          · omega
          · exact i1 i hi
        · rw [i3, Int.max_le]
          simp only [List.mem_cons, forall_eq_or_imp]
          exact and_assoc
        · rw [i4, Int.le_min]
          simp only [List.mem_cons, forall_eq_or_imp]
          exact and_assoc
/-- The gaps of the fields. -/
def gfS (l : List Fc) (r : List Int) (plan : List (List Nat)) (x : Int) : Prop := ∃ i, i < l.length ∧ x = gfN l r plan i
theorem wid_spec (l : List Fc) (r : List Int) (plan : List (List Nat)) : match widN l r plan with
    | none => ∃ x, gfS l r plan x ∧ x < 0
    | some (m, lo) => (∀ x, gfS l r plan x → 0 ≤ x) ∧ Sup m (gfS l r plan) ∧ ∀ t, t ≤ lo ↔ t ≤ 10000000 ∧ ∀ x, gfS l r plan x → t ≤ x := by
  have h := wid_fold (gfN l r plan) (List.range l.length) 0 10000000 (Int.le_refl _)
  unfold widN
  split at h
  · rename_i he
    (try rw [he])
    obtain ⟨i, hi, hf⟩ := h
    exact ⟨_, ⟨i, List.mem_range.1 hi, rfl⟩, hf⟩
  · rename_i m lo he
    (try rw [he])
    obtain ⟨i1, i2, i3, i4⟩ := h
    (try dsimp only)
    simp only [List.mem_range] at i1 i3 i4
    refine ⟨fun x ⟨i, hi, e⟩ => e ▸ i1 i hi, ⟨i2, fun t ht => ?_⟩, fun t => ?_⟩
    · rw [i3]
      exact ⟨fun h x ⟨i, hi, e⟩ => e ▸ h.2 i hi, fun h => ⟨ht, fun i hi => h _ ⟨i, hi, rfl⟩⟩⟩
    · rw [i4]
      exact ⟨fun h => ⟨h.1, fun x ⟨i, hi, e⟩ => e ▸ h.2 i hi⟩, fun h => ⟨h.1, fun i hi => h.2 _ ⟨i, hi, rfl⟩⟩⟩
theorem gap_perm {w : Int} {a b : List Int} (h : a.Perm b) : gapN w a = gapN w b := by
  unfold gapN
  have e1 : a.sum = b.sum := by
    induction h with
    | nil => rfl
    | cons x _ ih => simp [ih]
    | swap x y l => simp only [List.sum_cons]; omega
    | trans _ _ h1 h2 => exact h1.trans h2
  rw [e1, h.length_eq]
theorem filt_perm (p : Nat → Bool) : ∀ L : List Nat, (L.filter p ++ L.filter fun x => !p x).Perm L
  | [] => List.Perm.nil
  | a :: L => by
    have ih := filt_perm p L
    rw [List.filter_cons, List.filter_cons]
    cases p a
    · simp only [Bool.not_false, if_true, Bool.false_eq_true, if_false]
      exact List.perm_middle.trans (ih.cons a)
    · simp only [Bool.not_true, if_true, Bool.false_eq_true, if_false]
      exact ih.cons a
theorem evs_ods (n : Nat) : (evs n ++ ods n).Perm (List.range n) := by
  have h := filt_perm (fun i => i % 2 == 0) (List.range n)
  have e : (fun x : Nat => !(x % 2 == 0)) = fun i => i % 2 == 1 := funext fun i => by
    rcases Nat.mod_two_eq_zero_or_one i with h | h <;> simp [h]
  rw [e] at h
  exact h
theorem ord_perm (n : Nat) (k : Int) : (ordN n k).Perm (List.range n) := by
  unfold ordN
  split
  · exact List.Perm.refl _
  · split
    · exact List.reverse_perm _
    · split
      · exact (List.Perm.append_left _ (List.reverse_perm _)).trans (evs_ods n)
      · exact List.perm_append_comm.trans ((List.Perm.append_left _ (List.reverse_perm _)).trans (evs_ods n))
theorem sta_perm (n : Nat) (k : Int) (right : Bool) : (staN n k right).Perm (List.range n) := by
  unfold staN
  split
  · exact (List.reverse_perm _).trans (ord_perm n k)
  · exact ord_perm n k
theorem sta_len (n : Nat) (k : Int) (right : Bool) : (staN n k right).length = n := by
  rw [(sta_perm n k right).length_eq, List.length_range]
theorem plan_get (l : List Fc) (ns : List Nat) {i : Nat} (hi : i < l.length) : (planN l ns)[i]? = some (fldN l ns i) := by
  unfold planN
  rw [List.getElem?_map, List.getElem?_range hi]
  rfl
theorem plan_getD (l : List Fc) (ns : List Nat) {i : Nat} (hi : i < l.length) : (planN l ns).getD i [] = fldN l ns i := by
  rw [List.getD_eq_getElem?_getD, plan_get l ns hi]
  rfl
theorem gf_side (l : List Fc) (r : List Int) (ns : List Nat) {i : Nat} (hi : i < l.length) (hw : (l.getD i default).w = (l.getD (lefN l.length (grpN l.length i)) default).w) : gfN l r (planN l ns) i = sgpN l r (grpN l.length i) (atN l.length ns (grpN l.length i)) (ns.getD (grpN l.length i) 0) (if rgtB l.length i then 1 else 0) := by
  unfold gfN sgpN
  rw [plan_getD l ns hi, hw]
  refine gap_perm ?_
  unfold fldN selN
  rw [List.map_map]
  exact (sta_perm _ _ _).map _
theorem form_width {l : List Fc} (h : (List.range l.length).all (formB l) = true) {i : Nat} (hi : i < l.length) : (l.getD i default).w = (l.getD (l.length - 1 - i) default).w ∧ (l.getD (l.length - 1 - i) default).k = mirK (l.getD i default).k := by
  have := List.all_eq_true.1 h i (List.mem_range.2 hi)
  unfold formB at this
  simp only [Bool.and_eq_true, decide_eq_true_eq] at this
  exact ⟨this.1.symm, this.2⟩
/-- The fields' gaps are those of the groups. -/
theorem gs_gf (l : List Fc) (r : List Int) (ns : List Nat) (h : (List.range l.length).all (formB l) = true) (x : Int) : gsN l r ns 0 x ↔ gfS l r (planN l ns) x := by
  have hside : ∀ i, i < l.length → (if rgtB l.length i then 1 else 0) < sizN l.length (grpN l.length i) := fun i hi => by
    have hg := grp_lt hi
    have hp := siz_pos l.length (grpN l.length i)
    by_cases hs : sizN l.length (grpN l.length i) = 1
    · have h1 := siz_one hs
      have h2 := (grp_iff hi hg).1 rfl
      have : i = lefN l.length (grpN l.length i) := by rcases h2 with h | h <;> omega
      have h3 := rgt_left hg
      rw [← this] at h3
      rw [h3, hs]
      decide
    · rw [(siz_two hs).1]
      split <;> omega
  have hwid : ∀ i, i < l.length → (l.getD i default).w = (l.getD (lefN l.length (grpN l.length i)) default).w := fun i hi => by
    have hg := grp_lt hi
    have hl := lef_lt hg
    rcases (grp_iff hi hg).1 rfl with h2 | h2
    · rw [← h2]
    · have := (form_width h hl.1).1
      rw [← h2] at this
      exact this.symm
  constructor
  · rintro ⟨q, s, _, hq, hs, e⟩
    have hl := lef_lt hq
    by_cases h1 : sizN l.length q = 1
    · have hs0 : s = 0 := by omega
      subst hs0
      refine ⟨lefN l.length q, hl.1, ?_⟩
      rw [gf_side l r ns hl.1 (hwid _ hl.1), (grp_iff hl.1 hq).2 (.inl rfl), rgt_left hq]
      exact e
    · have h2 := (siz_two h1).1
      by_cases hs0 : s = 0
      · subst hs0
        refine ⟨lefN l.length q, hl.1, ?_⟩
        rw [gf_side l r ns hl.1 (hwid _ hl.1), (grp_iff hl.1 hq).2 (.inl rfl), rgt_left hq]
        exact e
      · have hs1 : s = 1 := by omega
        subst hs1
        refine ⟨l.length - 1 - lefN l.length q, hl.2.1, ?_⟩
        rw [gf_side l r ns hl.2.1 (hwid _ hl.2.1), (grp_iff hl.2.1 hq).2 (.inr rfl), rgt_right h1]
        exact e
  · rintro ⟨i, hi, e⟩
    exact ⟨grpN l.length i, _, Nat.zero_le _, grp_lt hi, hside i hi, by rw [e, gf_side l r ns hi (hwid i hi)]⟩
/-- What a division comes to, by the document. -/
def refV (l : List Fc) (r : List Int) (least : Int) (ns : List Nat) : Option Int := if dvN l.length r.length ((l.length + 1) / 2) 0 ns then (match widN l r (planN l ns) with
  | none => none
  | some p => if least ≤ p.2 then some p.1 else none) else none
theorem ref_vl (l : List Fc) (r : List Int) (least : Int) (ns : List Nat) (hf : (List.range l.length).all (formB l) = true) (h0 : 0 ≤ least) (h1 : least ≤ 10000000) : refV l r least ns = vlN l r least ((l.length + 1) / 2) 0 ns := by
  have hv := vl_spec l r least ns ((l.length + 1) / 2) 0 (by omega)
  rw [List.drop_zero, show atN l.length ns 0 = 0 from rfl] at hv
  have hw := wid_spec l r (planN l ns)
  unfold refV
  have hg := gs_gf l r ns hf
  split at hv
  · rename_i he
    (try rw [he])
    by_cases hd : dvN l.length r.length ((l.length + 1) / 2) 0 ns = true
    · rw [if_pos hd]
      split at hw
      · rename_i hwe
        (try rw [hwe])
      · rename_i m lo hwe
        (try rw [hwe])
        (try dsimp only)
        rw [if_neg]
        intro hlo
        exact hv ⟨hd, fun x hx => ((hw.2.2 least).1 hlo).2 x ((hg x).1 hx)⟩
    · rw [if_neg hd]
  · rename_i v he
    rw [he, if_pos hv.1]
    split at hw
    · exfalso
      obtain ⟨x, hx, hneg⟩ := hw
      have := hv.2.1 x ((hg x).2 hx)
      omega
    · rename_i m lo hwe
      (try rw [hwe])
      (try dsimp only)
      rw [if_pos ((hw.2.2 least).2 ⟨h1, fun x hx => hv.2.1 x ((hg x).2 hx)⟩), hw.2.1.unique hv.2.2 fun x => (hg x).symm]
/-- The document's search. -/
def refP (l : List Fc) (r : List Int) (least : Int) : Option (List Nat × Int) := (allN ((l.length + 1) / 2) r.length).foldl (minStep (refV l r least)) none
theorem bst_ge (l : List Fc) (r : List Int) (least : Int) : ∀ (j at_ : Nat), 0 ≤ (bstN l r least j at_).1
  | 0, _ => Int.le_refl _
  | j + 1, at_ => by
    rw [bstN]
    (try dsimp only)
    have : ∀ (L : List Nat) (c : Int × Bool), 0 ≤ c.1 → 0 ≤ (L.foldl (fun c m => chN (ggpN l r least ((l.length + 1) / 2 - (j + 1)) at_ (m + 1)) (bstN l r least j (at_ + sizN l.length ((l.length + 1) / 2 - (j + 1)) * (m + 1))) c) c).1 := by
      intro L
      induction L with
      | nil => exact fun c h => h
      | cons a L ih =>
        intro c h
        rw [List.foldl_cons]
        refine ih _ ?_
        unfold chN
        split
        · have := bst_ge l r least j (at_ + sizN l.length ((l.length + 1) / 2 - (j + 1)) * (a + 1))
          (try dsimp only)
          omega
        · exact h
    exact this _ _ (Int.le_refl _)
/-- THE PLAN: the document's search finds what the program finds. -/
theorem ref_plan (l : List Fc) (r : List Int) (least : Int) (hf : (List.range l.length).all (formB l) = true) (h0 : 0 ≤ least) (h1 : least ≤ 10000000) : refP l r least = if (bstN l r least ((l.length + 1) / 2) 0).2 then some (grN l r least (bstN l r least ((l.length + 1) / 2) 0).1 ((l.length + 1) / 2) 0, (bstN l r least ((l.length + 1) / 2) 0).1) else none := by
  have hm := min_spec (vlN l r least ((l.length + 1) / 2) 0) (allN ((l.length + 1) / 2) r.length)
  have hfun : refV l r least = vlN l r least ((l.length + 1) / 2) 0 := funext fun ns => ref_vl l r least ns hf h0 h1
  unfold refP
  rw [hfun]
  have hfind : ∀ v : Int, 0 ≤ v → _ := fun v hv => find_gr l r least v hv ((l.length + 1) / 2) 0 r.length (by omega)
  have hb := bst_ge l r least ((l.length + 1) / 2) 0
  generalize hB : bstN l r least ((l.length + 1) / 2) 0 = B at *
  obtain ⟨b1, b2⟩ := B
  dsimp only at hb ⊢
  split at hm
  · rename_i he
    (try rw [he])
    cases b2
    · rfl
    · exfalso
      have h := hfind b1 hb
      unfold bleN at h
      simp only [Int.le_refl, decide_true, Bool.and_self, if_true] at h
      have hmem := List.mem_of_find?_eq_some h
      have hp := List.find?_some h
      rw [hm _ hmem] at hp
      cases hp
  · rename_i b y he
    (try rw [he])
    obtain ⟨m1, m2, m3⟩ := hm
    have hy : 0 ≤ y := by
      have hs := vl_spec l r least b ((l.length + 1) / 2) 0 (by omega)
      rw [List.drop_zero, show atN l.length b 0 = 0 from rfl, m1] at hs
      exact hs.2.2.1
    have h := hfind y hy
    rw [m3] at h
    split at h
    · rename_i hble
      unfold bleN at hble
      simp only [Bool.and_eq_true, decide_eq_true_eq] at hble
      obtain ⟨rfl, hle⟩ := hble
      have h2 := hfind b1 hb
      unfold bleN at h2
      simp only [Int.le_refl, decide_true, Bool.and_self, if_true] at h2
      have hmem := List.mem_of_find?_eq_some h2
      have hp := List.find?_some h2
      have : y = b1 := by
        unfold leV at hp
        split at hp
        · cases hp
        · rename_i x hx
          have := m2 _ hmem x hx
          simp only [decide_eq_true_eq] at hp
          omega
      subst this
      simp only [if_true]
      injection h with h
      rw [h]
    · cases h
end Go.Proofs.YtakgcnjpmpcekaaGreat
