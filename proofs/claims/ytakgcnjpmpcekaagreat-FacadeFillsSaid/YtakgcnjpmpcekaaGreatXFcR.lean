/- Chapter 24: the best division and the least numbers: plain. -/
import Derived.Test.YtakgcnjpmpcekaaGreatXFcQM
namespace Go.Proofs.YtakgcnjpmpcekaaGreat

/-- All lists of j numbers from 1 on whose sum is at most a bound; lesser ones first. -/
def allN : Nat → Nat → List (List Nat)
  | 0, _ => [[]]
  | j + 1, most => (List.range most).flatMap fun m => (allN j (most - (m + 1))).map ((m + 1) :: ·)
section
variable (l : List Fc) (r : List Int) (least : Int)
def kN (j : Nat) : Nat := (l.length + 1) / 2 - (j + 1)
/-- What a division of the last j groups comes to; none: it is not allowed. -/
def vlN : Nat → Nat → List Nat → Option Int
  | 0, at_, [] => if at_ = r.length then some 0 else none
  | 0, _, _ :: _ => none
  | _ + 1, _, [] => none
  | j + 1, at_, n :: ns => if 1 ≤ n ∧ at_ + sizN l.length (kN l j) * n ≤ r.length ∧ (ggpN l r least (kN l j) at_ n).2 = true then (vlN j (at_ + sizN l.length (kN l j) * n) ns).map (max (ggpN l r least (kN l j) at_ n).1) else none
def leV (v : Int) : Option Int → Bool
  | none => false
  | some x => decide (x ≤ v)
def bleN (v : Int) (q : Int × Bool) : Bool := q.2 && decide (q.1 ≤ v)
/-- The least numbers that come to at most v. -/
def grN (v : Int) : Nat → Nat → List Nat
  | 0, _ => []
  | j + 1, at_ => numN l r least v j at_ :: grN v j (at_ + sizN l.length (kN l j) * numN l r least v j at_)
end
theorem siz_pos (L k : Nat) : 1 ≤ sizN L k := by
  unfold sizN
  split <;> omega
/-! ### the fold over the numbers of a group -/
theorem chN_le (v : Int) (g rest c : Int × Bool) : bleN v (chN g rest c) = (bleN v c || (g.2 && rest.2 && decide (max g.1 rest.1 ≤ v))) := by
  unfold chN bleN
  obtain ⟨c1, c2⟩ := c
  obtain ⟨g1, g2⟩ := g
  obtain ⟨r1, r2⟩ := rest
  cases g2
  · simp
  · cases r2
    · simp
    · cases c2
      · simp
      · by_cases h : max g1 r1 < c1
        · by_cases h2 : max g1 r1 ≤ v
          · simp only [h, h2, decide_true, Bool.not_true, Bool.and_true, if_true, Bool.or_true]
          · have h3 : ¬ c1 ≤ v := by omega
            simp only [h, h2, h3, decide_true, decide_false, Bool.not_true, Bool.false_or, Bool.and_true, if_true, Bool.and_false, Bool.or_false]
        · by_cases h2 : max g1 r1 ≤ v
          · have h3 : c1 ≤ v := by omega
            simp only [h, h2, h3, decide_true, decide_false, Bool.not_true, Bool.false_or, Bool.and_true, Bool.and_false, Bool.false_eq_true, if_false, Bool.or_true]
          · simp only [h, h2, decide_false, Bool.not_true, Bool.and_false, Bool.false_eq_true, if_false, Bool.or_false]
theorem fold_le (v : Int) (f : Nat → (Int × Bool) × (Int × Bool)) : ∀ (L : List Nat) (c : Int × Bool), bleN v (L.foldl (fun c m => chN (f m).1 (f m).2 c) c) = (bleN v c || L.any fun m => (f m).1.2 && (f m).2.2 && decide (max (f m).1.1 (f m).2.1 ≤ v))
  | [], c => by simp
  | m :: L, c => by
    rw [List.foldl_cons, fold_le v f L, chN_le, List.any_cons, Bool.or_assoc]
theorem bst_le (l : List Fc) (r : List Int) (least v : Int) (j at_ : Nat) : bleN v (bstN l r least (j + 1) at_) = (List.range ((r.length - at_) / sizN l.length (kN l j))).any fun m => okN l r least v j at_ (m + 1) := by
  have h := fold_le v (fun m => (ggpN l r least (kN l j) at_ (m + 1), bstN l r least j (at_ + sizN l.length (kN l j) * (m + 1)))) (List.range ((r.length - at_) / sizN l.length (kN l j))) (0, false)
  exact h
/-! ### the first number -/
theorem fst_find (p : Nat → Bool) : ∀ (f n : Nat), (∃ m, n ≤ m ∧ m < n + f ∧ p m = true) → p (fstN p f n) = true ∧ n ≤ fstN p f n ∧ fstN p f n < n + f ∧ ∀ m, n ≤ m → m < fstN p f n → p m = false
  | 0, n, h => by
    obtain ⟨m, h1, h2, _⟩ := h
    omega
  | f + 1, n, h => by
    unfold fstN
    by_cases hp : p n = true
    · rw [if_pos hp]
      exact ⟨hp, Nat.le_refl _, by omega, fun m h1 h2 => by omega⟩
    · rw [if_neg hp]
      obtain ⟨m, h1, h2, h3⟩ := h
      have hm : n ≠ m := fun e => hp (e ▸ h3)
      obtain ⟨i1, i2, i3, i4⟩ := fst_find p f (n + 1) ⟨m, by omega, by omega, h3⟩
      refine ⟨i1, by omega, by omega, fun q h4 h5 => ?_⟩
      by_cases hq : q = n
      · subst hq
        simpa using hp
      · exact i4 q (by omega) h5
theorem ok_bound {r : List Int} {at_ s n : Nat} (hs : 1 ≤ s) : n < (r.length - at_) / s ↔ at_ + s * (n + 1) ≤ r.length ∨ (r.length < at_ ∧ False) := by
  rw [Nat.lt_iff_add_one_le, Nat.le_div_iff_mul_le hs, Nat.mul_comm]
  constructor
  · intro h
    left
    have : s * (n + 1) = s * n + s := Nat.mul_succ s n
    omega
  · rintro (h | h)
    · omega
    · exact h.2.elim
/-! ### the first list of all -/
theorem find_flat {α β : Type} (p : β → Bool) (f : α → List β) : ∀ L : List α, (L.flatMap f).find? p = L.findSome? fun a => (f a).find? p
  | [] => rfl
  | a :: L => by
    rw [List.flatMap_cons, List.find?_append, List.findSome?_cons, find_flat p f L]
    cases h : (f a).find? p <;> simp
theorem vl_cons (l : List Fc) (r : List Int) (least v : Int) (j at_ n : Nat) (ns : List Nat) : leV v (vlN l r least (j + 1) at_ (n :: ns)) = (decide (1 ≤ n ∧ at_ + sizN l.length (kN l j) * n ≤ r.length) && (ggpN l r least (kN l j) at_ n).2 && decide ((ggpN l r least (kN l j) at_ n).1 ≤ v) && leV v (vlN l r least j (at_ + sizN l.length (kN l j) * n) ns)) := by
  rw [vlN]
  by_cases h1 : 1 ≤ n ∧ at_ + sizN l.length (kN l j) * n ≤ r.length
  · cases hg : (ggpN l r least (kN l j) at_ n).2
    · rw [if_neg (fun h => by simp at h)]
      simp [leV]
    · rw [if_pos ⟨h1.1, h1.2, rfl⟩, decide_eq_true h1]
      cases vlN l r least j (at_ + sizN l.length (kN l j) * n) ns with
      | none => simp [leV]
      | some x =>
        simp only [Option.map_some, leV, Bool.true_and]
        rw [← Bool.decide_and, decide_eq_decide, Int.max_le]
  · rw [if_neg (fun h => h1 ⟨h.1, h.2.1⟩), decide_eq_false h1]
    simp [leV]
theorem ok_eq (l : List Fc) (r : List Int) (least v : Int) (j at_ n : Nat) : okN l r least v j at_ n = ((ggpN l r least (kN l j) at_ n).2 && decide ((ggpN l r least (kN l j) at_ n).1 ≤ v) && bleN v (bstN l r least j (at_ + sizN l.length (kN l j) * n))) := by
  show (_ && _ && decide (max _ _ ≤ v)) = _
  unfold bleN kN
  have e : ∀ a b : Int, decide (max a b ≤ v) = (decide (a ≤ v) && decide (b ≤ v)) := fun a b => by rw [← Bool.decide_and, decide_eq_decide, Int.max_le]
  rw [e]
  cases (ggpN l r least ((l.length + 1) / 2 - (j + 1)) at_ n).2 <;> cases (bstN l r least j (at_ + sizN l.length ((l.length + 1) / 2 - (j + 1)) * n)).2 <;> simp
theorem findSome_first {β : Type} (f : Nat → Option β) (p : Nat → Bool) (g : Nat → β) : ∀ (c a : Nat), (∀ m, a ≤ m → m < a + c → f m = if p m then some (g m) else none) → ((List.range' a c).findSome? f) = if (List.range' a c).any p then some (g (fstN p c a)) else none
  | 0, a, _ => by simp
  | c + 1, a, h => by
    have h0 := h a (Nat.le_refl _) (by omega)
    have ih := findSome_first f p g c (a + 1) fun m h1 h2 => h m (by omega) (by omega)
    rw [List.range'_succ, List.findSome?_cons, h0, List.any_cons]
    unfold fstN
    cases hp : p a
    · simp only [Bool.false_eq_true, if_false, Bool.false_or]
      exact ih
    · simp
theorem fst_more (p : Nat → Bool) : ∀ (f n d : Nat), (∃ m, n ≤ m ∧ m < n + f ∧ p m = true) → fstN p (f + d) n = fstN p f n
  | 0, n, d, h => by
    obtain ⟨m, h1, h2, _⟩ := h
    omega
  | f + 1, n, d, h => by
    rw [show f + 1 + d = (f + d) + 1 by omega]
    unfold fstN
    by_cases hp : p n = true
    · rw [if_pos hp, if_pos hp]
    · rw [if_neg hp, if_neg hp]
      obtain ⟨m, h1, h2, h3⟩ := h
      have hm : n ≠ m := fun e => hp (e ▸ h3)
      exact fst_more p f (n + 1) d ⟨m, by omega, by omega, h3⟩
/-- The first list that comes to at most v is the one of the least numbers. -/
theorem find_gr (l : List Fc) (r : List Int) (least v : Int) (hv : 0 ≤ v) : ∀ (j at_ most : Nat), r.length ≤ at_ + most → (allN j most).find? (fun ns => leV v (vlN l r least j at_ ns)) = if bleN v (bstN l r least j at_) then some (grN l r least v j at_) else none
  | 0, at_, most, _ => by
    simp only [allN, List.find?_cons, List.find?_nil]
    unfold vlN bleN bstN grN
    by_cases h : at_ = r.length
    · rw [if_pos h, decide_eq_true h]
      simp [leV, hv]
    · rw [if_neg h, decide_eq_false h]
      simp [leV]
  | j + 1, at_, most, hm => by
    have hs := siz_pos l.length (kN l j)
    rw [allN, find_flat, bst_le]
    have hsub : ∀ m, m < most → ((allN j (most - (m + 1))).map ((m + 1) :: ·)).find? (fun ns => leV v (vlN l r least (j + 1) at_ ns)) = if decide (at_ + sizN l.length (kN l j) * (m + 1) ≤ r.length) && okN l r least v j at_ (m + 1) then some ((m + 1) :: grN l r least v j (at_ + sizN l.length (kN l j) * (m + 1))) else none := fun m hlt => by
      rw [List.find?_map]
      have e : ((fun ns => leV v (vlN l r least (j + 1) at_ ns)) ∘ ((m + 1) :: ·)) = fun ns => (decide (at_ + sizN l.length (kN l j) * (m + 1) ≤ r.length) && (ggpN l r least (kN l j) at_ (m + 1)).2 && decide ((ggpN l r least (kN l j) at_ (m + 1)).1 ≤ v)) && leV v (vlN l r least j (at_ + sizN l.length (kN l j) * (m + 1)) ns) := funext fun ns => by
        show leV v (vlN l r least (j + 1) at_ ((m + 1) :: ns)) = _
        rw [vl_cons]
        congr 3
        rw [decide_eq_decide]
        omega
      rw [e, ok_eq]
      cases hc : decide (at_ + sizN l.length (kN l j) * (m + 1) ≤ r.length) && (ggpN l r least (kN l j) at_ (m + 1)).2 && decide ((ggpN l r least (kN l j) at_ (m + 1)).1 ≤ v)
      · simp only [Bool.false_and]
        rw [List.find?_eq_none.2 (by simp)]
        simp only [Option.map_none]
        rw [if_neg]
        intro h
        simp only [Bool.and_eq_true] at h
        simp only [Bool.and_eq_false_iff] at hc
        rcases hc with (hc | hc) | hc
        · rw [h.1] at hc; cases hc
        · rw [h.2.1.1] at hc; cases hc
        · rw [h.2.1.2] at hc; cases hc
      · simp only [Bool.true_and]
        rw [find_gr l r least v hv j _ _ (by
          have hms : sizN l.length (kN l j) * (m + 1) ≥ m + 1 := Nat.le_mul_of_pos_left _ hs
          omega)]
        simp only [Bool.and_eq_true] at hc
        rw [hc.1.1, hc.1.2, hc.2]
        simp only [Bool.true_and]
        split <;> rfl
    have hrng : List.range most = List.range' 0 most := List.range_eq_range' ..
    have h1 := findSome_first (fun m => ((allN j (most - (m + 1))).map ((m + 1) :: ·)).find? (fun ns => leV v (vlN l r least (j + 1) at_ ns))) (fun m => decide (at_ + sizN l.length (kN l j) * (m + 1) ≤ r.length) && okN l r least v j at_ (m + 1)) (fun m => (m + 1) :: grN l r least v j (at_ + sizN l.length (kN l j) * (m + 1))) most 0 fun m _ h => hsub m (by omega)
    rw [hrng, h1, ← hrng]
    have hany : ((List.range most).any fun m => decide (at_ + sizN l.length (kN l j) * (m + 1) ≤ r.length) && okN l r least v j at_ (m + 1)) = (List.range ((r.length - at_) / sizN l.length (kN l j))).any fun m => okN l r least v j at_ (m + 1) := by
      rw [Bool.eq_iff_iff, List.any_eq_true, List.any_eq_true]
      constructor
      · rintro ⟨m, hm1, hm2⟩
        simp only [Bool.and_eq_true, decide_eq_true_eq] at hm2
        exact ⟨m, List.mem_range.2 ((ok_bound (r := r) hs).2 (.inl hm2.1)), hm2.2⟩
      · rintro ⟨m, hm1, hm2⟩
        have h3 := (ok_bound (r := r) hs).1 (List.mem_range.1 hm1)
        have h4 : at_ + sizN l.length (kN l j) * (m + 1) ≤ r.length := by rcases h3 with h | h; exact h; exact h.2.elim
        have hms : sizN l.length (kN l j) * (m + 1) ≥ m + 1 := Nat.le_mul_of_pos_left _ hs
        exact ⟨m, List.mem_range.2 (by omega), by simp only [Bool.and_eq_true, decide_eq_true_eq]; exact ⟨h4, hm2⟩⟩
    rw [hany]
    cases hb : (List.range ((r.length - at_) / sizN l.length (kN l j))).any fun m => okN l r least v j at_ (m + 1)
    · rfl
    · simp only [if_true]
      have hex : ∃ m, m < most ∧ at_ + sizN l.length (kN l j) * (m + 1) ≤ r.length ∧ okN l r least v j at_ (m + 1) = true := by
        rw [← hany, List.any_eq_true] at hb
        obtain ⟨m, hm1, hm2⟩ := hb
        simp only [Bool.and_eq_true, decide_eq_true_eq] at hm2
        exact ⟨m, List.mem_range.1 hm1, hm2.1, hm2.2⟩
      obtain ⟨m, hm1, hm2, hm3⟩ := hex
      obtain ⟨f1, f2, f3, f4⟩ := fst_find (fun m => decide (at_ + sizN l.length (kN l j) * (m + 1) ≤ r.length) && okN l r least v j at_ (m + 1)) most 0 ⟨m, by omega, by omega, by simp only [Bool.and_eq_true, decide_eq_true_eq]; exact ⟨hm2, hm3⟩⟩
      generalize fstN (fun m => decide (at_ + sizN l.length (kN l j) * (m + 1) ≤ r.length) && okN l r least v j at_ (m + 1)) most 0 = q at *
      simp only [Bool.and_eq_true, decide_eq_true_eq] at f1
      have hmr : m + 1 < 1 + (r.length + 1) := by
        have hms : sizN l.length (kN l j) * (m + 1) ≥ m + 1 := Nat.le_mul_of_pos_left _ hs
        omega
      obtain ⟨g1, g2, g3, g4⟩ := fst_find (okN l r least v j at_) (r.length + 1) 1 ⟨m + 1, by omega, hmr, hm3⟩
      have hnum : numN l r least v j at_ = fstN (okN l r least v j at_) (r.length + 1) 1 := rfl
      have heq : numN l r least v j at_ = q + 1 := by
        rw [hnum]
        generalize fstN (okN l r least v j at_) (r.length + 1) 1 = z at *
        rcases Nat.lt_trichotomy z (q + 1) with h | h | h
        · exfalso
          have h5 := f4 (z - 1) (by omega) (by omega)
          rw [show z - 1 + 1 = z by omega, g1, Bool.and_true, decide_eq_false_iff_not] at h5
          have h6 : sizN l.length (kN l j) * z ≤ sizN l.length (kN l j) * (q + 1) := Nat.mul_le_mul_left _ (by omega)
          omega
        · exact h
        · exfalso
          have h5 := g4 (q + 1) (by omega) h
          rw [f1.2] at h5
          cases h5
      show some ((q + 1) :: _) = some (grN l r least v (j + 1) at_)
      rw [grN, heq]
/-! ### the least of a list of values -/
def minStep {α : Type} (f : α → Option Int) (q : Option (α × Int)) (a : α) : Option (α × Int) :=
  match f a with
  | none => q
  | some x => match q with
    | none => some (a, x)
    | some (b, y) => if x < y then some (a, x) else some (b, y)
/-- The first of the least ones: what is found, its value, and that no other one is less. -/
theorem min_spec {α : Type} (f : α → Option Int) : ∀ L : List α, match L.foldl (minStep f) none with
    | none => ∀ a ∈ L, f a = none
    | some (b, y) => f b = some y ∧ (∀ a ∈ L, ∀ x, f a = some x → y ≤ x) ∧ L.find? (fun a => leV y (f a)) = some b := by
  intro L
  induction hn : L.length generalizing L with
  | zero =>
    obtain rfl := List.length_eq_zero_iff.1 hn
    simp
  | succ n ih =>
    obtain ⟨L', a, rfl⟩ : ∃ L' a, L = L' ++ [a] := by
      rcases List.eq_nil_or_concat L with h | ⟨L', a, h⟩
      · rw [h] at hn; cases hn
      · exact ⟨L', a, by simpa using h⟩
    have h := ih L' (by simpa using hn)
    rw [List.foldl_append]
    simp only [List.foldl_cons, List.foldl_nil]
    cases hq : L'.foldl (minStep f) none with
    | none =>
      rw [hq] at h
      dsimp only at h
      unfold minStep
      cases hf : f a with
      | none =>
        dsimp only
        intro b hb
        rcases List.mem_append.1 hb with hb | hb
        · exact h b hb
        · rw [List.mem_singleton.1 hb]
          exact hf
      | some x =>
        dsimp only
        refine ⟨hf, fun b hb y hy => ?_, ?_⟩
        · rcases List.mem_append.1 hb with hb | hb
          · rw [h b hb] at hy
            cases hy
          · rw [List.mem_singleton.1 hb, hf] at hy
            cases hy
            exact Int.le_refl _
        · rw [List.find?_append, List.find?_eq_none.2 fun b hb => by rw [h b hb]; simp [leV]]
          simp [hf, leV]
    | some q =>
      obtain ⟨b, y⟩ := q
      rw [hq] at h
      dsimp only at h
      obtain ⟨h1, h2, h3⟩ := h
      unfold minStep
      cases hf : f a with
      | none =>
        dsimp only
        refine ⟨h1, fun c hc x hx => ?_, ?_⟩
        · rcases List.mem_append.1 hc with hc | hc
          · exact h2 c hc x hx
          · rw [List.mem_singleton.1 hc, hf] at hx
            cases hx
        · rw [List.find?_append, h3]
          rfl
      | some x =>
        dsimp only
        by_cases hxy : x < y
        · rw [if_pos hxy]
          dsimp only
          refine ⟨hf, fun c hc z hz => ?_, ?_⟩
          · rcases List.mem_append.1 hc with hc | hc
            · have := h2 c hc z hz
              omega
            · rw [List.mem_singleton.1 hc, hf] at hz
              cases hz
              exact Int.le_refl _
          · rw [List.find?_append, List.find?_eq_none.2 fun c hc => by
              cases hz : f c with
              | none => simp [leV]
              | some z =>
                have := h2 c hc z hz
                simp [leV]
                omega]
            simp [hf, leV]
        · rw [if_neg hxy]
          dsimp only
          refine ⟨h1, fun c hc z hz => ?_, ?_⟩
          · rcases List.mem_append.1 hc with hc | hc
            · exact h2 c hc z hz
            · rw [List.mem_singleton.1 hc, hf] at hz
              cases hz
              omega
          · rw [List.find?_append, h3]
            rfl
end Go.Proofs.YtakgcnjpmpcekaaGreat
