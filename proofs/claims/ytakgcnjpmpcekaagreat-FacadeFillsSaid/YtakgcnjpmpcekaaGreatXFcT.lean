/- Chapter 24: that the plan is the best one; that it is symmetric, and that each pipe is in one field: plain. -/
import Derived.Test.YtakgcnjpmpcekaaGreatXFcS
namespace Go.Proofs.YtakgcnjpmpcekaaGreat

/-! ### no division is better -/
theorem vl_bst (l : List Fc) (r : List Int) (least v : Int) : ∀ (j at_ : Nat) (ns : List Nat), leV v (vlN l r least j at_ ns) = true → 0 ≤ v → bleN v (bstN l r least j at_) = true
  | 0, at_, [], h, hv => by
    unfold vlN at h
    unfold bstN bleN
    by_cases h1 : at_ = r.length
    · simp [h1, hv]
    · rw [if_neg h1] at h
      cases h
  | 0, _, _ :: _, h, _ => by cases h
  | _ + 1, _, [], h, _ => by cases h
  | j + 1, at_, n :: ns, h, hv => by
    rw [vl_cons] at h
    simp only [Bool.and_eq_true, decide_eq_true_eq] at h
    obtain ⟨⟨⟨⟨h1, h2⟩, h3⟩, h4⟩, h5⟩ := h
    have ih := vl_bst l r least v j _ ns h5 hv
    rw [bst_le, List.any_eq_true]
    refine ⟨n - 1, List.mem_range.2 ((ok_bound (r := r) (siz_pos _ _)).2 (.inl (by rw [show n - 1 + 1 = n by omega]; exact h2))), ?_⟩
    rw [show n - 1 + 1 = n by omega, ok_eq, h3, ih, decide_eq_true h4]
    rfl
/-- Are numbers less than others? -/
def lexB : List Nat → List Nat → Bool
  | a :: as, b :: bs => if a ≠ b then decide (a < b) else lexB as bs
  | _, _ => false
theorem gr_least (l : List Fc) (r : List Int) (least v : Int) (hv : 0 ≤ v) : ∀ (j at_ : Nat) (ns : List Nat), leV v (vlN l r least j at_ ns) = true → lexB ns (grN l r least v j at_) = false
  | 0, _, [], _ => rfl
  | 0, _, _ :: _, h => by cases h
  | _ + 1, _, [], h => by cases h
  | j + 1, at_, n :: ns, h => by
    have h0 := h
    rw [vl_cons] at h
    simp only [Bool.and_eq_true, decide_eq_true_eq] at h
    obtain ⟨⟨⟨⟨h1, h2⟩, h3⟩, h4⟩, h5⟩ := h
    have hok : okN l r least v j at_ n = true := by
      rw [ok_eq, h3, vl_bst l r least v j _ ns h5 hv, decide_eq_true h4]
      rfl
    have hs := siz_pos l.length (kN l j)
    have hms : sizN l.length (kN l j) * n ≥ n := Nat.le_mul_of_pos_left _ hs
    obtain ⟨g1, g2, g3, g4⟩ := fst_find (okN l r least v j at_) (r.length + 1) 1 ⟨n, by omega, by omega, hok⟩
    have hnum : numN l r least v j at_ = fstN (okN l r least v j at_) (r.length + 1) 1 := rfl
    rw [← hnum] at g1 g2 g3 g4
    have hle : numN l r least v j at_ ≤ n := by
      rcases Nat.lt_or_ge n (numN l r least v j at_) with h | h
      · rw [g4 n h1 h] at hok
        cases hok
      · exact h
    rw [grN, lexB]
    by_cases he : n = numN l r least v j at_
    · rw [if_neg (by simpa using he), ← he]
      exact gr_least l r least v hv j _ ns h5
    · rw [if_pos he, decide_eq_false (by omega)]
theorem gr_len (l : List Fc) (r : List Int) (least v : Int) : ∀ (j at_ : Nat), (grN l r least v j at_).length = j
  | 0, _ => rfl
  | j + 1, at_ => by rw [grN, List.length_cons, gr_len l r least v j]
/-- What the numbers of the plan come to. -/
theorem gr_val (l : List Fc) (r : List Int) (least : Int) (hf : (List.range l.length).all (formB l) = true) (h0 : 0 ≤ least) (h1 : least ≤ 10000000) (hb : (bstN l r least ((l.length + 1) / 2) 0).2 = true) : refV l r least (grN l r least (bstN l r least ((l.length + 1) / 2) 0).1 ((l.length + 1) / 2) 0) = some (bstN l r least ((l.length + 1) / 2) 0).1 := by
  have h := ref_plan l r least hf h0 h1
  rw [hb] at h
  have hm := min_spec (refV l r least) (allN ((l.length + 1) / 2) r.length)
  unfold refP at h
  rw [h] at hm
  exact hm.1
/-- Any allowed division: it has no lesser gap, and with the same one no lesser numbers. -/
theorem plan_best (l : List Fc) (r : List Int) (least : Int) (hf : (List.range l.length).all (formB l) = true) (h0 : 0 ≤ least) (h1 : least ≤ 10000000) (ns : List Nat) (v : Int) (hv : refV l r least ns = some v) :
    (bstN l r least ((l.length + 1) / 2) 0).2 = true ∧ (bstN l r least ((l.length + 1) / 2) 0).1 ≤ v ∧ (v = (bstN l r least ((l.length + 1) / 2) 0).1 → lexB ns (grN l r least (bstN l r least ((l.length + 1) / 2) 0).1 ((l.length + 1) / 2) 0) = false) := by
  rw [ref_vl l r least ns hf h0 h1] at hv
  have hv0 : 0 ≤ v := by
    have hs := vl_spec l r least ns ((l.length + 1) / 2) 0 (by omega)
    rw [List.drop_zero, show atN l.length ns 0 = 0 from rfl, hv] at hs
    exact hs.2.2.1
  have h2 := vl_bst l r least v _ _ ns (by rw [hv]; simp [leV]) hv0
  unfold bleN at h2
  simp only [Bool.and_eq_true, decide_eq_true_eq] at h2
  refine ⟨h2.1, h2.2, fun e => ?_⟩
  rw [← e]
  exact gr_least l r least v hv0 _ _ ns (by rw [hv]; simp [leV])

/-! ### each pipe is in one field -/
theorem set_flatten {β : Type} : ∀ (out : List (List β)) (i : Nat) (v : List β), out[i]? = some [] → (out.set i v).flatten.Perm (v ++ out.flatten)
  | [], i, v, h => by simp at h
  | a :: out, 0, v, h => by
    simp only [List.getElem?_cons_zero, Option.some.injEq] at h
    subst h
    simp
  | a :: out, i + 1, v, h => by
    have ih := set_flatten out i v (by simpa using h)
    rw [List.set_cons_succ, List.flatten_cons, List.flatten_cons]
    exact (List.Perm.append_left a ih).trans (by rw [← List.append_assoc, ← List.append_assoc]; exact List.Perm.append_right _ List.perm_append_comm)
theorem two_rows (a : Nat) : ∀ n, ((List.range n).map (fun x => a + 2 * x) ++ (List.range n).map fun x => a + 2 * x + 1).Perm (List.range' a (2 * n))
  | 0 => List.Perm.nil
  | n + 1 => by
    have ih := two_rows a n
    rw [List.range_succ, List.map_append, List.map_append, show 2 * (n + 1) = 2 * n + 1 + 1 by omega, List.range'_concat, List.range'_concat]
    simp only [List.map_cons, List.map_nil, Nat.one_mul]
    rw [List.append_assoc, show a + (2 * n + 1) = a + 2 * n + 1 by omega]
    have h1 : ([a + 2 * n] ++ ((List.range n).map (fun x => a + 2 * x + 1) ++ [a + 2 * n + 1])).Perm (((List.range n).map (fun x => a + 2 * x + 1) ++ [a + 2 * n]) ++ [a + 2 * n + 1]) := by
      rw [← List.append_assoc]
      exact List.Perm.append_right _ List.perm_append_comm
    refine (List.Perm.append_left _ h1).trans ?_
    rw [← List.append_assoc, ← List.append_assoc]
    exact List.Perm.append_right _ (List.Perm.append_right _ ih)
theorem one_row (a n : Nat) : (List.range n).map (fun x => a + 1 * x) = List.range' a n := by
  rw [List.range'_eq_map_range]
  exact List.map_congr_left fun x _ => by rw [Nat.one_mul]
theorem part_perm (l : List Fc) (ns : List Nat) : ∀ k, k ≤ (l.length + 1) / 2 → ((partN l.length (fldN l ns) k).flatten).Perm (List.range (atN l.length ns k))
  | 0, _ => by
    rw [part_zero, List.flatten_replicate_nil]
    exact List.Perm.nil
  | k + 1, hk => by
    have ih := part_perm l ns k (by omega)
    have hk' : k < (l.length + 1) / 2 := by omega
    have hl := lef_lt hk'
    have g1 := (grp_iff hl.1 hk').2 (.inl rfl)
    have g2 := (grp_iff hl.2.1 hk').2 (.inr rfl)
    have e1 : (partN l.length (fldN l ns) k)[lefN l.length k]? = some [] := by rw [part_get _ k hl.1, if_neg (by omega)]
    have p1 := set_flatten _ _ (fldN l ns (lefN l.length k)) e1
    have q1 : (fldN l ns (lefN l.length k)).Perm ((List.range (ns.getD k 0)).map fun x => atN l.length ns k + sizN l.length k * x) := by
      unfold fldN
      rw [g1, rgt_left hk']
      exact (sta_perm _ _ _).map _
    rw [← part_step _ hk', atN]
    by_cases hs : sizN l.length k = 1
    · rw [siz_one hs, List.set_set]
      refine p1.trans ((q1.append ih).trans ?_)
      rw [hs, one_row, Nat.one_mul, List.range_eq_range', List.range_eq_range', ← List.range'_append_1, Nat.zero_add]
      exact List.perm_append_comm
    · have hne := (siz_two hs).2
      have e2 : ((partN l.length (fldN l ns) k).set (lefN l.length k) (fldN l ns (lefN l.length k)))[l.length - 1 - lefN l.length k]? = some [] := by
        rw [List.getElem?_set, if_neg hne, part_get _ k hl.2.1, if_neg (by omega)]
      have p2 := set_flatten _ _ (fldN l ns (l.length - 1 - lefN l.length k)) e2
      have q2 : (fldN l ns (l.length - 1 - lefN l.length k)).Perm ((List.range (ns.getD k 0)).map fun x => atN l.length ns k + sizN l.length k * x + 1) := by
        unfold fldN
        rw [g2, rgt_right hs]
        exact (sta_perm _ _ _).map _
      refine p2.trans ((List.Perm.append_left _ p1).trans ?_)
      rw [← List.append_assoc]
      refine ((List.perm_append_comm.trans (q1.append q2)).append ih).trans ?_
      rw [(siz_two hs).1, List.range_eq_range' (n := atN l.length ns k + 2 * ns.getD k 0), List.range_eq_range' (n := atN l.length ns k), ← List.range'_append_1, Nat.zero_add]
      exact ((two_rows _ _).append_right _).trans List.perm_append_comm
theorem dv_at (L n : Nat) (ns : List Nat) : ∀ (j k : Nat), j + k = (L + 1) / 2 → dvN L n j (atN L ns k) (ns.drop k) = true → atN L ns ((L + 1) / 2) = n
  | 0, k, hjk, h => by
    rw [← hjk, Nat.zero_add]
    cases hd : ns.drop k with
    | nil => rw [hd] at h; simpa [dvN] using h
    | cons a b => rw [hd] at h; cases h
  | j + 1, k, hjk, h => by
    cases hd : ns.drop k with
    | nil => rw [hd] at h; cases h
    | cons a b =>
      have ha : ns.getD k 0 = a := by
        rw [List.getD_eq_getElem?_getD, ← List.head?_drop, hd]
        rfl
      have hb : ns.drop (k + 1) = b := by rw [← List.tail_drop, hd]; rfl
      rw [hd] at h
      simp only [dvN, Bool.and_eq_true] at h
      refine dv_at L n ns j (k + 1) (by omega) ?_
      rw [hb, atN, ha]
      rw [show (L + 1) / 2 - (j + 1) = k by omega] at h
      exact h.2
theorem plan_perm (l : List Fc) (ns : List Nat) (n : Nat) (h : dvN l.length n ((l.length + 1) / 2) 0 ns = true) : (planN l ns).flatten.Perm (List.range n) := by
  have h1 := part_perm l ns ((l.length + 1) / 2) (Nat.le_refl _)
  rw [part_all] at h1
  have h2 := dv_at l.length n ns ((l.length + 1) / 2) 0 (by omega) (by rw [List.drop_zero]; exact h)
  rw [h2] at h1
  exact h1

/-- Are the numbers of a division less, field by field, from the middle to the left end? -/
def lesB (a b : List Nat) : Nat → Bool
  | 0 => false
  | i + 1 => if a.getD i 0 ≠ b.getD i 0 then decide (a.getD i 0 < b.getD i 0) else lesB a b i
def lensN (p : List (List Nat)) : List Nat := p.map List.length
theorem lens_at (l : List Fc) (ns : List Nat) {k : Nat} (hk : k < (l.length + 1) / 2) : (lensN (planN l ns)).getD (lefN l.length k) 0 = ns.getD k 0 := by
  have hl := lef_lt hk
  unfold lensN
  rw [List.getD_eq_getElem?_getD, List.getElem?_map, plan_get l ns hl.1]
  simp only [Option.map_some, Option.getD_some]
  unfold fldN
  rw [List.length_map, sta_len, (grp_iff hl.1 hk).2 (.inl rfl)]
theorem les_lex (l : List Fc) (ms ns : List Nat) (hm : ms.length = (l.length + 1) / 2) (hn : ns.length = (l.length + 1) / 2) : ∀ i k, i + k = (l.length + 1) / 2 → lesB (lensN (planN l ms)) (lensN (planN l ns)) i = lexB (ms.drop k) (ns.drop k)
  | 0, k, h => by
    rw [List.drop_eq_nil_of_le (by omega), lesB, lexB]
    simp
  | i + 1, k, h => by
    have hk : k < (l.length + 1) / 2 := by omega
    have hi : lefN l.length k = i := by unfold lefN; omega
    have e1 : ms.drop k = ms.getD k 0 :: ms.drop (k + 1) := by
      rw [List.drop_eq_getElem_cons (by omega), List.getD_eq_getElem?_getD, List.getElem?_eq_getElem (by omega)]
      rfl
    have e2 : ns.drop k = ns.getD k 0 :: ns.drop (k + 1) := by
      rw [List.drop_eq_getElem_cons (by omega), List.getD_eq_getElem?_getD, List.getElem?_eq_getElem (by omega)]
      rfl
    have h1 := lens_at l ms hk
    have h2 := lens_at l ns hk
    rw [hi] at h1 h2
    rw [lesB, h1, h2, e1, e2, lexB, les_lex l ms ns hm hn i (k + 1) (by omega)]
/-! ### numbering anew -/
/-- How many different ones are less. -/
def frsB (l : List Int) (k : Nat) : Bool := (List.range k).all fun j => decide (l.getD j 0 ≠ l.getD k 0)
def rnkN (l : List Int) (x : Int) : Nat := ((List.range l.length).filter fun k => decide (l.getD k 0 < x) && frsB l k).length
def anewN (l : List Int) : List Nat := l.map (rnkN l)
theorem perm_of {a b : List Int} (ha : a.Nodup) (hb : b.Nodup) (h : ∀ x, x ∈ a ↔ x ∈ b) : a.Perm b := (List.perm_ext_iff_of_nodup ha hb).2 h
/-- The first ones, below x. -/
theorem rnk_firsts (l : List Int) (x : Int) : ∃ f : List Int, f.length = rnkN l x ∧ f.Nodup ∧ ∀ y, y ∈ f ↔ y ∈ l ∧ y < x := by
  refine ⟨((List.range l.length).filter fun k => decide (l.getD k 0 < x) && frsB l k).map fun k => l.getD k 0, by rw [List.length_map]; rfl, ?_, fun y => ?_⟩
  · unfold List.Nodup
    rw [List.pairwise_map]
    refine List.Pairwise.imp_of_mem (R := (· < ·)) ?_ (List.Pairwise.filter _ List.pairwise_lt_range)
    intro a b _ hb hab he
    have := (List.mem_filter.1 hb).2
    simp only [Bool.and_eq_true] at this
    have h2 := List.all_eq_true.1 this.2 a (List.mem_range.2 hab)
    simp only [decide_eq_true_eq] at h2
    exact h2 he
  · rw [List.mem_map]
    constructor
    · rintro ⟨k, hk, rfl⟩
      obtain ⟨h1, h2⟩ := List.mem_filter.1 hk
      simp only [Bool.and_eq_true, decide_eq_true_eq] at h2
      refine ⟨?_, h2.1⟩
      have hlt := List.mem_range.1 h1
      rw [List.getD_eq_getElem?_getD, List.getElem?_eq_getElem hlt]
      exact List.getElem_mem hlt
    · rintro ⟨hy, hlt⟩
      have hex : ∃ k, k < l.length ∧ l.getD k 0 = y := by
        obtain ⟨k, hk, e⟩ := List.getElem_of_mem hy
        exact ⟨k, hk, by rw [List.getD_eq_getElem?_getD, List.getElem?_eq_getElem hk]; exact e⟩
      obtain ⟨k, hk, hlast⟩ : ∃ k, (k < l.length ∧ l.getD k 0 = y) ∧ ∀ j, j < k → ¬ (j < l.length ∧ l.getD j 0 = y) := by
        obtain ⟨k, hk⟩ := hex
        induction k using Nat.strongRecOn with
        | _ k ih =>
          by_cases h : ∃ j, j < k ∧ j < l.length ∧ l.getD j 0 = y
          · obtain ⟨j, h1, h2⟩ := h
            exact ih j h1 h2
          · exact ⟨k, hk, fun j hj hp => h ⟨j, hj, hp⟩⟩
      refine ⟨k, List.mem_filter.2 ⟨List.mem_range.2 hk.1, ?_⟩, hk.2⟩
      simp only [Bool.and_eq_true, decide_eq_true_eq]
      refine ⟨by rw [hk.2]; exact hlt, List.all_eq_true.2 fun j hj => ?_⟩
      have hj' := List.mem_range.1 hj
      simp only [decide_eq_true_eq]
      exact fun e => hlast j hj' ⟨by omega, e.trans hk.2⟩
theorem rnk_of {l f : List Int} (x : Int) (hf : f.Nodup) (h : ∀ y, y ∈ f ↔ y ∈ l ∧ y < x) : rnkN l x = f.length := by
  obtain ⟨g, h1, h2, h3⟩ := rnk_firsts l x
  rw [← h1]
  exact (perm_of h2 hf fun y => (h3 y).trans (h y).symm).length_eq
theorem rnk_mono (g : Nat → Int) (hg : ∀ a b, a < b → g a < g b) (σ : List Nat) (n : Nat) (hσ : σ.Perm (List.range n)) (a : Nat) (ha : a < n) : rnkN (σ.map g) (g a) = a := by
  have inj : ∀ a b, g a < g b ↔ a < b := fun a b => by
    constructor
    · intro h
      rcases Nat.lt_trichotomy a b with h1 | h1 | h1
      · exact h1
      · subst h1; omega
      · have := hg _ _ h1; omega
    · exact hg a b
  rw [rnk_of (f := (List.range a).map g) (g a)]
  · simp
  · unfold List.Nodup
    rw [List.pairwise_map]
    exact List.Pairwise.imp (fun h e => by have := hg _ _ h; omega) List.pairwise_lt_range
  · intro y
    simp only [List.mem_map, List.mem_range]
    constructor
    · rintro ⟨b, hb, rfl⟩
      exact ⟨⟨b, hσ.mem_iff.2 (List.mem_range.2 (by omega)), rfl⟩, hg _ _ hb⟩
    · rintro ⟨⟨b, _, rfl⟩, h⟩
      exact ⟨b, (inj b a).1 h, rfl⟩
theorem anew_map (g : Nat → Int) (hg : ∀ a b, a < b → g a < g b) (σ : List Nat) (n : Nat) (hσ : σ.Perm (List.range n)) : anewN (σ.map g) = σ := by
  unfold anewN
  rw [List.map_map]
  have : σ.map (rnkN (σ.map g) ∘ g) = σ.map id := List.map_congr_left fun a ha => rnk_mono g hg σ n hσ a (List.mem_range.1 (hσ.mem_iff.1 ha))
  rw [this, List.map_id]
def mirB (l : List Fc) (plan : List (List Int)) : Bool := (List.range (l.length / 2)).all fun i => decide (anewN (plan.getD i []) = (anewN (plan.getD (l.length - 1 - i) [])).reverse)
/-- Right of the middle the mirrored kind stands from right to left. -/
theorem sta_mirror (n : Nat) (k : Int) (right : Bool) (h : 1 ≤ k ∧ k ≤ 4) : staN n (mirK k) (!right) = (staN n k right).reverse := by
  unfold staN mirK
  obtain rfl | rfl | rfl | rfl : k = 1 ∨ k = 2 ∨ k = 3 ∨ k = 4 := by omega
  all_goals cases right <;> simp [ordN]
def intP (p : List (List Nat)) : List (List Int) := p.map fun x => x.map fun n : Nat => (n : Int)
theorem plan_mirror (l : List Fc) (ns : List Nat) (hf : (List.range l.length).all (formB l) = true) (hk : ∀ f ∈ l, 1 ≤ f.k ∧ f.k ≤ 4) : mirB l (intP (planN l ns)) = true := by
  unfold mirB
  rw [List.all_eq_true]
  intro i hi
  have hi' := List.mem_range.1 hi
  have hI : i < l.length := by omega
  have hJ : l.length - 1 - i < l.length := by omega
  rw [decide_eq_true_eq]
  have e : ∀ q, q < l.length → (intP (planN l ns)).getD q [] = (staN (ns.getD (grpN l.length q) 0) (l.getD q default).k (rgtB l.length q)).map fun x => ((atN l.length ns (grpN l.length q) + sizN l.length (grpN l.length q) * x + (if rgtB l.length q then 1 else 0) : Nat) : Int) := fun q hq => by
    unfold intP
    rw [List.getD_eq_getElem?_getD, List.getElem?_map, plan_get l ns hq]
    simp only [Option.map_some, Option.getD_some]
    unfold fldN
    rw [List.map_map]
    rfl
  have hgm : ∀ (a s b x y : Nat), 1 ≤ s → x < y → ((a + s * x + b : Nat) : Int) < ((a + s * y + b : Nat) : Int) := fun a s b x y hs hxy => by
    have := Nat.mul_lt_mul_of_pos_left hxy (show 0 < s by omega)
    omega
  rw [e i hI, e _ hJ, anew_map _ (fun a b h => hgm _ _ _ _ _ (siz_pos _ _) h) _ _ (sta_perm _ _ _), anew_map _ (fun a b h => hgm _ _ _ _ _ (siz_pos _ _) h) _ _ (sta_perm _ _ _)]
  have hg : grpN l.length (l.length - 1 - i) = grpN l.length i := by
    unfold grpN
    rw [if_neg (by omega), if_pos (by omega)]
    omega
  have hr : rgtB l.length (l.length - 1 - i) = !rgtB l.length i := by
    unfold rgtB
    rw [← decide_not, decide_eq_decide]
    omega
  have hm : l.getD i default ∈ l := by
    rw [List.getD_eq_getElem?_getD, List.getElem?_eq_getElem hI]
    exact List.getElem_mem hI
  rw [hg, hr, (form_width hf hI).2, sta_mirror _ _ _ (hk _ hm), List.reverse_reverse]
end Go.Proofs.YtakgcnjpmpcekaaGreat
