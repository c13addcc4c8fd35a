/- Chapter 33: the search for a way of playing divisions, over plain lists: the program's order of trial, the reference's, and what is found. No program in sight. -/

namespace Go.Kq

/-- A division by which another one is played: its number, the stops, the cost. -/
structure Cc where
  to : Int
  stops : List Nat
  cost : Int
deriving Inhabited
structure Rs where
  cost : Int
  to : List Int
  stops : List Nat
def srt (l : List Nat) : List Nat := l.mergeSort fun a b => decide (a ≤ b)
theorem srt_perm (l : List Nat) : (srt l).Perm l := List.mergeSort_perm _ _
theorem srt_sorted (l : List Nat) : (srt l).Pairwise (· ≤ ·) := by
  have h := List.pairwise_mergeSort (le := fun a b : Nat => decide (a ≤ b)) (by intro a b c; simp; omega) (by intro a b; simp; omega) l
  exact h.imp (by simp)
theorem srt_uniq {l m : List Nat} (hp : m.Perm l) (hs : m.Pairwise (· ≤ ·)) : m = srt l :=
  List.Perm.eq_of_pairwise (le := (· ≤ ·)) (fun _ _ _ _ h1 h2 => Nat.le_antisymm h1 h2) hs (srt_sorted l) (hp.trans (srt_perm l).symm)
def updR (s : Rs) (L : List Cc) (sum : Int) : Rs := if s.cost < 0 ∨ sum < s.cost then ⟨sum, L.map Cc.to, srt (L.flatMap Cc.stops)⟩ else s
def clash (L : List Cc) (x : Cc) : Bool := decide (0 ≤ x.to) && L.any fun y => decide (x.to = y.to)
def goR : List (List Cc) → List Cc → Int → Rs → Rs
  | [], L, sum, s => updR s L sum
  | cs :: rest, L, sum, s => cs.foldl (fun s x => if clash L x then s else goR rest (L ++ [x]) (sum + x.cost) s) s
def tup : List (List Cc) → List (List Cc)
  | [] => [[]]
  | cs :: rest => cs.flatMap fun x => (tup rest).map (x :: ·)
/-- No division comes twice. -/
def apart : List Cc → List Cc → Bool
  | _, [] => true
  | L, x :: T => !clash L x && apart (L ++ [x]) T
def totC : List Cc → Int
  | [] => 0
  | x :: T => x.cost + totC T
theorem totC_append : ∀ (L M : List Cc), totC (L ++ M) = totC L + totC M
  | [], M => by simp [totC]
  | x :: L, M => by simp only [List.cons_append, totC, totC_append L M]; omega
theorem goR_tup : ∀ (all : List (List Cc)) (L : List Cc) (sum : Int) (s : Rs), goR all L sum s = (tup all).foldl (fun s T => if apart L T then updR s (L ++ T) (sum + totC T) else s) s
  | [], L, sum, s => by simp [goR, tup, apart, totC]
  | cs :: rest, L, sum, s => by
    rw [goR, tup, List.foldl_flatMap]
    congr 1
    funext s x
    rw [List.foldl_map]
    cases hc : clash L x
    · rw [if_neg (by simp), goR_tup rest]
      congr 1
      funext s T
      simp only [apart, hc, totC, Bool.not_false, Bool.true_and, List.append_assoc, List.cons_append, List.nil_append]
      rw [show sum + x.cost + totC T = sum + (x.cost + totC T) by omega]
    · rw [if_pos rfl]
      simp only [apart, hc, Bool.not_true, Bool.false_and, Bool.false_eq_true, if_false]
      clear hc
      generalize tup rest = l
      induction l with
      | nil => rfl
      | cons a l ih => exact ih
/-- What the search finds. -/
def bestR (all : List (List Cc)) : Rs := goR all [] 0 ⟨-1, [], []⟩
def stepR (s : Rs) (T : List Cc) : Rs := if apart [] T then updR s T (totC T) else s
theorem bestR_fold (all : List (List Cc)) : bestR all = (tup all).foldl stepR ⟨-1, [], []⟩ := by
  unfold bestR
  rw [goR_tup]
  congr 1
  funext s T
  simp [stepR]
/-- What holds of the found one: it is one of the tuples, and none is less. -/
def IsR (s : Rs) (T : List Cc) : Prop := s = ⟨totC T, T.map Cc.to, srt (T.flatMap Cc.stops)⟩ ∧ apart [] T = true
theorem fold_isR : ∀ (l : List (List Cc)) (s : Rs), (∀ T ∈ l, 0 ≤ totC T) → (s.cost = -1 ∨ 0 ≤ s.cost) →
    let r := l.foldl stepR s
    (r.cost = -1 ∨ 0 ≤ r.cost) ∧ (r = s ∨ ∃ T ∈ l, IsR r T) ∧ (0 ≤ s.cost → 0 ≤ r.cost ∧ r.cost ≤ s.cost) ∧ ∀ T ∈ l, apart [] T = true → 0 ≤ r.cost ∧ r.cost ≤ totC T
  | [], s, _, hs => ⟨hs, .inl rfl, fun h => ⟨h, Int.le_refl _⟩, fun T h => by cases h⟩
  | X :: l, s, hl, hs => by
    have hX := hl X (by simp)
    have h0 : ((stepR s X).cost = -1 ∨ 0 ≤ (stepR s X).cost) ∧ (stepR s X = s ∨ IsR (stepR s X) X) ∧ (0 ≤ s.cost → 0 ≤ (stepR s X).cost ∧ (stepR s X).cost ≤ s.cost) ∧ (apart [] X = true → 0 ≤ (stepR s X).cost ∧ (stepR s X).cost ≤ totC X) := by
      unfold stepR
      cases ha : apart [] X
      · rw [if_neg (by simp)]
        exact ⟨hs, .inl rfl, fun h => ⟨h, Int.le_refl _⟩, fun h => by cases h⟩
      · rw [if_pos rfl]
        unfold updR
        by_cases hc : s.cost < 0 ∨ totC X < s.cost
        · rw [if_pos hc]
          exact ⟨.inr hX, .inr ⟨rfl, ha⟩, fun h => ⟨hX, by show totC X ≤ s.cost; omega⟩, fun _ => ⟨hX, Int.le_refl _⟩⟩
        · rw [if_neg hc]
          exact ⟨hs, .inl rfl, fun h => ⟨h, Int.le_refl _⟩, fun _ => ⟨by omega, by omega⟩⟩
    obtain ⟨a1, a2, a3, a4⟩ := h0
    obtain ⟨b1, b2, b3, b4⟩ := fold_isR l (stepR s X) (fun T h => hl T (by simp [h])) a1
    simp only [List.foldl_cons]
    refine ⟨b1, ?_, fun h => ?_, fun T hT ha => ?_⟩
    · rcases b2 with b2 | ⟨T, hT, b2⟩
      · rw [b2]
        rcases a2 with a2 | a2
        · exact .inl a2
        · exact .inr ⟨X, by simp, a2⟩
      · exact .inr ⟨T, by simp [hT], b2⟩
    · have h1 := a3 h
      have h2 := b3 h1.1
      omega
    · rcases List.mem_cons.1 hT with rfl | hT
      · have h1 := a4 ha
        have h2 := b3 h1.1
        omega
      · exact b4 T hT ha
theorem mem_tup : ∀ (all : List (List Cc)) (T : List Cc), T ∈ tup all ↔ T.length = all.length ∧ ∀ (i : Nat) x cs, T[i]? = some x → all[i]? = some cs → x ∈ cs
  | [], T => by
    simp only [tup, List.mem_singleton, List.length_nil, List.length_eq_zero_iff]
    exact ⟨fun h => ⟨h, fun i x cs _ h => by simp at h⟩, fun h => h.1⟩
  | cs :: rest, T => by
    simp only [tup, List.mem_flatMap, List.mem_map]
    constructor
    · rintro ⟨x, hx, T', hT', rfl⟩
      obtain ⟨h1, h2⟩ := (mem_tup rest T').1 hT'
      refine ⟨by simp [h1], fun i y ds hy hd => ?_⟩
      cases i with
      | zero =>
        simp at hy hd
        subst hy hd
        exact hx
      | succ i => exact h2 i y ds (by simpa using hy) (by simpa using hd)
    · rintro ⟨h1, h2⟩
      cases T with
      | nil => simp at h1
      | cons x T' =>
        exact ⟨x, h2 0 x cs rfl rfl, T', (mem_tup rest T').2 ⟨by simpa using h1, fun i y ds hy hd => h2 (i + 1) y ds (by simpa using hy) (by simpa using hd)⟩, rfl⟩
theorem apart_iff : ∀ (T L : List Cc), apart L T = true ↔ ∀ (i : Nat) x, T[i]? = some x → 0 ≤ x.to → (∀ y ∈ L, x.to ≠ y.to) ∧ ∀ (k : Nat) y, k < i → T[k]? = some y → x.to ≠ y.to
  | [], L => by simp [apart]
  | x :: T, L => by
    simp only [apart, Bool.and_eq_true, Bool.not_eq_true', apart_iff T (L ++ [x])]
    have hcl : clash L x = false ↔ (0 ≤ x.to → ∀ y ∈ L, x.to ≠ y.to) := by
      unfold clash
      by_cases h : 0 ≤ x.to <;> simp [h]
    rw [hcl]
    constructor
    · rintro ⟨h1, h2⟩ i u hu h0
      cases i with
      | zero =>
        simp at hu
        subst hu
        exact ⟨h1 h0, fun k y hk => by omega⟩
      | succ i =>
        obtain ⟨a, b⟩ := h2 i u (by simpa using hu) h0
        refine ⟨fun y hy => a y (by simp [hy]), fun k y hk hy => ?_⟩
        cases k with
        | zero =>
          simp at hy
          subst hy
          exact a x (by simp)
        | succ k => exact b k y (by omega) (by simpa using hy)
    · intro h
      refine ⟨fun h0 => (h 0 x rfl h0).1, fun i u hu h0 => ?_⟩
      obtain ⟨a, b⟩ := h (i + 1) u (by simpa using hu) h0
      refine ⟨fun y hy => ?_, fun k y hk hy => b (k + 1) y (by omega) (by simpa using hy)⟩
      rcases List.mem_append.1 hy with hy | hy
      · exact a y hy
      · simp at hy
        subst hy
        exact b 0 y (by omega) rfl
/-- What a walk sees of one tuple: the tuple's own list. -/
theorem bestR_is {all : List (List Cc)} (hc : ∀ cs ∈ all, ∀ x ∈ cs, 0 ≤ x.cost) (hn : ∀ cs ∈ all, ∃ x ∈ cs, x.to < 0) :
    ∃ T ∈ tup all, IsR (bestR all) T ∧ ∀ T' ∈ tup all, apart [] T' = true → totC T ≤ totC T' := by
  have hpos : ∀ T ∈ tup all, 0 ≤ totC T := by
    intro T hT
    have h := (mem_tup all T).1 hT
    have : ∀ x ∈ T, 0 ≤ x.cost := fun x hx => by
      obtain ⟨i, hi⟩ := List.getElem?_of_mem hx
      have hlt : i < all.length := by rw [← h.1]; exact (List.getElem?_eq_some_iff.1 hi).1
      have h2 := h.2 i x _ hi (List.getElem?_eq_getElem hlt)
      exact hc _ (List.getElem_mem hlt) x h2
    clear h hT
    induction T with
    | nil => simp [totC]
    | cons x T ih =>
      have h1 := this x (by simp)
      have h2 := ih fun y hy => this y (by simp [hy])
      simp only [totC]
      omega
  obtain ⟨N, hN, hNa⟩ : ∃ T ∈ tup all, apart [] T = true := by
    have hN : ∀ (all : List (List Cc)), (∀ cs ∈ all, ∃ x ∈ cs, x.to < 0) → ∃ T ∈ tup all, ∀ x ∈ T, x.to < 0 := by
      intro all
      induction all with
      | nil => exact fun _ => ⟨[], by simp [tup], by simp⟩
      | cons cs rest ih =>
        intro h
        obtain ⟨x, hx, hx0⟩ := h cs (by simp)
        obtain ⟨T, hT, hT0⟩ := ih fun ds hd => h ds (by simp [hd])
        exact ⟨x :: T, by simp only [tup, List.mem_flatMap, List.mem_map]; exact ⟨x, hx, T, hT, rfl⟩, by simpa using ⟨hx0, hT0⟩⟩
    obtain ⟨T, hT, h0⟩ := hN all hn
    refine ⟨T, hT, (apart_iff T []).2 fun i x hx h => ?_⟩
    have := h0 x (List.mem_of_getElem? hx)
    omega
  have h := fold_isR (tup all) ⟨-1, [], []⟩ hpos (.inl rfl)
  rw [← bestR_fold] at h
  obtain ⟨h1, h2, _, h4⟩ := h
  have hNc := h4 N hN hNa
  rcases h2 with h2 | ⟨T, hT, h2⟩
  · rw [h2] at hNc
    simp at hNc
  · refine ⟨T, hT, h2, fun T' hT' ha => ?_⟩
    have := h4 T' hT' ha
    rw [h2.1] at this
    exact this.2
end Go.Kq
