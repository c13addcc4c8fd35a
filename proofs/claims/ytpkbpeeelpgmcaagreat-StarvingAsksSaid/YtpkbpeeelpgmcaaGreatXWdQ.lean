/- Chapter 15: combinations in order, the least ones, what is safe: plain. -/
import Derived.Test.YtpkbpeeelpgmcaaGreatXWdP
namespace Go.Proofs.YtpkbpeeelpgmcaaGreat
open Go.Flow

/-- The numbers whose bits are set. -/
def numB (s n : Nat) : List Nat := (List.range n).filter fun i => s.testBit i
theorem numB_succ (s n : Nat) : numB s (n + 1) = numB s n ++ if s.testBit n then [n] else [] := by
  unfold numB
  rw [List.range_succ, List.filter_append]
  cases h : s.testBit n <;> simp [h]
theorem mem_numB {s n x : Nat} : x ∈ numB s n ↔ x < n ∧ s.testBit x = true := by
  unfold numB
  simp [List.mem_filter]
theorem numB_up (s n : Nat) : (numB s n).Pairwise (· < ·) := List.Pairwise.filter _ List.pairwise_lt_range
theorem numB_len (s n : Nat) : (numB s n).length ≤ n := by
  unfold numB
  have := List.length_filter_le (fun i => s.testBit i) (List.range n)
  simpa using this
theorem up_ext : ∀ {a b : List Nat}, a.Pairwise (· < ·) → b.Pairwise (· < ·) → (∀ x, x ∈ a ↔ x ∈ b) → a = b
  | [], [], _, _, _ => rfl
  | [], y :: b, _, _, h => by have := (h y).2 (by simp); simp at this
  | x :: a, [], _, _, h => by have := (h x).1 (by simp); simp at this
  | x :: a, y :: b, ha, hb, h => by
    have ha2 := List.pairwise_cons.1 ha
    have hb2 := List.pairwise_cons.1 hb
    have exy : x = y := by
      rcases List.mem_cons.1 ((h x).1 (by simp)) with h1 | h1
      · exact h1
      · rcases List.mem_cons.1 ((h y).2 (by simp)) with h2 | h2
        · exact h2.symm
        · have := hb2.1 x h1
          have := ha2.1 y h2
          omega
    subst exy
    congr 1
    refine up_ext ha2.2 hb2.2 fun z => ?_
    constructor
    · intro hz
      rcases List.mem_cons.1 ((h z).1 (by simp [hz])) with h1 | h1
      · have := ha2.1 z hz; omega
      · exact h1
    · intro hz
      rcases List.mem_cons.1 ((h z).2 (by simp [hz])) with h1 | h1
      · have := hb2.1 z hz; omega
      · exact h1
/-- The number of a set. -/
def bitsOf (p : Nat → Bool) : Nat → Nat
  | 0 => 0
  | n + 1 => bitsOf p n + if p n then 2 ^ n else 0
theorem bitsOf_lt (p : Nat → Bool) : ∀ n, bitsOf p n < 2 ^ n
  | 0 => by simp [bitsOf]
  | n + 1 => by
    have := bitsOf_lt p n
    unfold bitsOf
    rw [Nat.pow_succ]
    split <;> omega
theorem bitsOf_bit (p : Nat → Bool) : ∀ n i, (bitsOf p n).testBit i = (decide (i < n) && p i)
  | 0, i => by simp [bitsOf]
  | n + 1, i => by
    have ih := bitsOf_bit p n
    have hl := bitsOf_lt p n
    unfold bitsOf
    by_cases hp : p n
    · rw [if_pos hp, Nat.add_comm, ]
      by_cases hi : i = n
      · subst hi
        rw [Nat.testBit_two_pow_add_eq, ih]
        simp [hp]
      · by_cases hin : i < n
        · rw [Nat.testBit_two_pow_add_gt hin, ih]
          simp [hin, show i < n + 1 by omega]
        · have : (2 ^ n + bitsOf p n).testBit i = false := Nat.testBit_lt_two_pow (by
            have : 2 ^ (n + 1) ≤ 2 ^ i := Nat.pow_le_pow_right (by omega) (by omega)
            rw [Nat.pow_succ] at this
            omega)
          rw [this]
          simp [show ¬ i < n + 1 by omega]
    · rw [if_neg hp, Nat.add_zero, ih]
      by_cases hi : i = n
      · subst hi
        simp [hp]
      · by_cases hin : i < n
        · simp [hin, show i < n + 1 by omega]
        · simp [hin, show ¬ i < n + 1 by omega]
theorem numB_of {n : Nat} {l : List Nat} (h : l.Pairwise (· < ·)) (hb : ∀ x ∈ l, x < n) : ∃ s, s < 2 ^ n ∧ numB s n = l := by
  refine ⟨bitsOf (fun x => decide (x ∈ l)) n, bitsOf_lt _ n, up_ext (numB_up _ _) h fun x => ?_⟩
  rw [mem_numB, bitsOf_bit]
  simp only [Bool.and_eq_true, decide_eq_true_eq]
  exact ⟨fun h => h.2.2, fun h => ⟨hb x h, hb x h, h⟩⟩
theorem numB_inj {n s t : Nat} (hs : s < 2 ^ n) (ht : t < 2 ^ n) (h : numB s n = numB t n) : s = t := by
  refine Nat.eq_of_testBit_eq fun i => ?_
  by_cases hi : i < n
  · have h1 : i ∈ numB s n ↔ i ∈ numB t n := by rw [h]
    rw [mem_numB, mem_numB] at h1
    cases h2 : s.testBit i <;> cases h3 : t.testBit i <;> simp [hi, h2, h3] at h1 ⊢
  · have := Nat.pow_le_pow_right (show 1 ≤ 2 by omega) (show n ≤ i by omega)
    rw [Nat.testBit_lt_two_pow (by omega), Nat.testBit_lt_two_pow (by omega)]
/-- A combination. -/
structure Cb where
  st : List Nat
  ky : List Nat
instance : Inhabited Cb := ⟨⟨[], []⟩⟩
instance : DecidableEq Cb := fun a b => by
  obtain ⟨a1, a2⟩ := a
  obtain ⟨b1, b2⟩ := b
  exact if h1 : a1 = b1 then if h2 : a2 = b2 then isTrue (by rw [h1, h2]) else isFalse (by intro h; cases h; exact h2 rfl) else isFalse (by intro h; cases h; exact h1 rfl)
def Cb.size (c : Cb) : Nat := c.st.length + c.ky.length
def Cb.inB (a b : Cb) : Bool := a.st.all (fun x => decide (x ∈ b.st)) && a.ky.all fun x => decide (x ∈ b.ky)
theorem Cb.inB_iff {a b : Cb} : a.inB b = true ↔ (∀ x ∈ a.st, x ∈ b.st) ∧ ∀ x ∈ a.ky, x ∈ b.ky := by simp [Cb.inB]
/-- Stops below S and keys below K, each ascending. -/
structure CbOk (S K : Nat) (c : Cb) : Prop where
  s1 : c.st.Pairwise (· < ·)
  s2 : ∀ x ∈ c.st, x < S
  k1 : c.ky.Pairwise (· < ·)
  k2 : ∀ x ∈ c.ky, x < K
/-- As slices.Compare: -1, 0 or 1. -/
def cmpL : List Nat → List Nat → Int
  | [], [] => 0
  | [], _ :: _ => -1
  | _ :: _, [] => 1
  | a :: l, b :: k => if a < b then -1 else if b < a then 1 else cmpL l k
theorem cmpL_zero : ∀ {a b : List Nat}, cmpL a b = 0 → a = b
  | [], [], _ => rfl
  | [], _ :: _, h => by simp [cmpL] at h
  | _ :: _, [], h => by simp [cmpL] at h
  | a :: l, b :: k, h => by
    unfold cmpL at h
    split at h
    · omega
    · split at h
      · omega
      · rw [cmpL_zero h, show a = b by omega]
theorem cmpL_self : ∀ a : List Nat, cmpL a a = 0
  | [] => rfl
  | a :: l => by simp [cmpL, cmpL_self l]
theorem cmpL_swap : ∀ a b : List Nat, cmpL b a = - cmpL a b
  | [], [] => rfl
  | [], _ :: _ => rfl
  | _ :: _, [] => rfl
  | a :: l, b :: k => by
    have ih := cmpL_swap l k
    unfold cmpL
    by_cases h1 : a < b
    · simp [h1, show ¬ b < a by omega]
    · by_cases h2 : b < a
      · simp [h1, h2]
      · simp [h1, h2, ih]
theorem cmpL_bd : ∀ a b : List Nat, -1 ≤ cmpL a b ∧ cmpL a b ≤ 1
  | [], [] => by simp [cmpL]
  | [], _ :: _ => by simp [cmpL]
  | _ :: _, [] => by simp [cmpL]
  | a :: l, b :: k => by
    have ih := cmpL_bd l k
    unfold cmpL
    split
    · omega
    · split <;> omega
theorem cmpL_trans : ∀ {a b c : List Nat}, cmpL a b < 0 → cmpL b c < 0 → cmpL a c < 0
  | [], [], _, h, _ => by simp [cmpL] at h
  | [], _ :: _, [], _, h => by simp [cmpL] at h
  | [], _ :: _, _ :: _, _, _ => by simp [cmpL]
  | _ :: _, [], _, h, _ => by simp [cmpL] at h
  | _ :: _, _ :: _, [], _, h => by simp [cmpL] at h
  | a :: l, b :: k, c :: m, h1, h2 => by
    unfold cmpL at *
    by_cases e1 : a < b
    · by_cases e2 : b < c
      · simp [show a < c by omega]
      · by_cases e3 : c < b
        · simp [e2, e3] at h2
        · have : b = c := by omega
          subst this
          simp [e1]
    · by_cases e1' : b < a
      · simp [e1, e1'] at h1
      · have : a = b := by omega
        subst this
        by_cases e2 : a < c
        · simp [e2]
        · by_cases e3 : c < a
          · simp [e2, e3] at h2
          · simp [e2, e3] at h1 h2 ⊢
            exact cmpL_trans h1 h2
/-- As compare orders combinations. -/
def cmpC (a b : Cb) : Int :=
  if (a.st.length : Int) + a.ky.length - b.st.length - b.ky.length ≠ 0 then (a.st.length : Int) + a.ky.length - b.st.length - b.ky.length
  else if cmpL a.st b.st ≠ 0 then cmpL a.st b.st else cmpL a.ky b.ky
theorem cmpC_zero {a b : Cb} (h : cmpC a b = 0) : a = b := by
  unfold cmpC at h
  split at h
  · omega
  · split at h
    · omega
    · rename_i h1 h2
      have h2 : cmpL a.st b.st = 0 := by omega
      have e1 := cmpL_zero h2
      have e2 := cmpL_zero h
      obtain ⟨a1, a2⟩ := a
      obtain ⟨b1, b2⟩ := b
      dsimp only at e1 e2
      rw [e1, e2]
theorem cmpC_self (a : Cb) : cmpC a a = 0 := by
  unfold cmpC
  rw [if_neg (by omega), if_neg (by rw [cmpL_self]; omega), cmpL_self]
theorem cmpC_swap (a b : Cb) : cmpC b a = - cmpC a b := by
  unfold cmpC
  rw [cmpL_swap a.st b.st, cmpL_swap a.ky b.ky]
  by_cases h1 : (a.st.length : Int) + a.ky.length - b.st.length - b.ky.length = 0
  · rw [if_neg (by omega), if_neg (by omega : ¬ (a.st.length : Int) + a.ky.length - b.st.length - b.ky.length ≠ 0)]
    by_cases h2 : cmpL a.st b.st = 0
    · rw [if_neg (by omega), if_neg (by omega)]
    · rw [if_pos (by omega), if_pos (by omega)]
  · rw [if_pos (by omega), if_pos (by omega)]
    omega
theorem cmpC_trans {a b c : Cb} (h1 : cmpC a b < 0) (h2 : cmpC b c < 0) : cmpC a c < 0 := by
  unfold cmpC at *
  by_cases e1 : (a.st.length : Int) + a.ky.length - b.st.length - b.ky.length = 0
  · rw [if_neg (by omega)] at h1
    by_cases e2 : (b.st.length : Int) + b.ky.length - c.st.length - c.ky.length = 0
    · rw [if_neg (by omega)] at h2 ⊢
      by_cases f1 : cmpL a.st b.st = 0
      · rw [if_neg (by omega)] at h1
        rw [cmpL_zero f1]
        by_cases f2 : cmpL b.st c.st = 0
        · rw [if_neg (by omega)] at h2 ⊢
          exact cmpL_trans h1 h2
        · rw [if_pos (by omega)] at h2 ⊢
          exact h2
      · rw [if_pos (by omega)] at h1
        by_cases f2 : cmpL b.st c.st = 0
        · rw [← cmpL_zero f2, if_pos (by omega)]
          exact h1
        · rw [if_pos (by omega)] at h2
          have := cmpL_trans h1 h2
          rw [if_pos (by omega)]
          exact this
    · rw [if_pos (by omega)] at h2 ⊢
      omega
  · rw [if_pos (by omega)] at h1
    by_cases e2 : (b.st.length : Int) + b.ky.length - c.st.length - c.ky.length = 0
    · rw [if_pos (by omega)]
      omega
    · rw [if_pos (by omega)] at h2
      rw [if_pos (by omega)]
      omega
theorem cmpC_size {a b : Cb} (h : cmpC a b < 0) : a.size ≤ b.size := by
  unfold cmpC at h
  unfold Cb.size
  split at h
  · omega
  · omega
/-- All combinations of S stops and K keys. -/
def allC (S K : Nat) : List Cb := (List.range (2 ^ S)).flatMap fun s => (List.range (2 ^ K)).map fun k => ⟨numB s S, numB k K⟩
theorem mem_allC {S K : Nat} {c : Cb} : c ∈ allC S K ↔ CbOk S K c := by
  unfold allC
  simp only [List.mem_flatMap, List.mem_map, List.mem_range]
  constructor
  · rintro ⟨s, _, k, _, rfl⟩
    exact ⟨numB_up _ _, fun x hx => (mem_numB.1 hx).1, numB_up _ _, fun x hx => (mem_numB.1 hx).1⟩
  · rintro ⟨h1, h2, h3, h4⟩
    obtain ⟨s, hs, es⟩ := numB_of h1 h2
    obtain ⟨k, hk, ek⟩ := numB_of h3 h4
    exact ⟨s, hs, k, hk, by rw [es, ek]⟩
theorem allC_nodup (S K : Nat) : (allC S K).Nodup := by
  unfold allC
  refine List.pairwise_flatMap.2 ⟨fun s _ => ?_, ?_⟩
  · refine List.pairwise_map.2 (List.Pairwise.imp_of_mem (fun {a b} ha hb h e => ?_) List.nodup_range)
    injection e with _ e
    exact h (numB_inj (List.mem_range.1 ha) (List.mem_range.1 hb) e)
  · refine List.Pairwise.imp_of_mem (fun {a b} ha hb h => ?_) List.nodup_range
    intro x hx y hy e
    obtain ⟨k, _, rfl⟩ := List.mem_map.1 hx
    obtain ⟨k', _, rfl⟩ := List.mem_map.1 hy
    injection e with e _
    exact h (numB_inj (List.mem_range.1 ha) (List.mem_range.1 hb) e)
theorem allC_len (S K : Nat) : (allC S K).length = 2 ^ S * 2 ^ K := by
  have e : ∀ (l : List Nat) (c : Nat), (l.map fun _ => c).sum = l.length * c := fun l c => by
    induction l with
    | nil => simp
    | cons x l ih => rw [List.map_cons, List.sum_cons, ih, List.length_cons, Nat.add_mul]; omega
  unfold allC
  simp only [List.length_flatMap, List.length_map, List.length_range]
  rw [e, List.length_range]
/-- In strict order. -/
def UpC (l : List Cb) : Prop := l.Pairwise fun a b => cmpC a b < 0
theorem upC_ext : ∀ {a b : List Cb}, UpC a → UpC b → (∀ x, x ∈ a ↔ x ∈ b) → a = b
  | [], [], _, _, _ => rfl
  | [], y :: b, _, _, h => by have := (h y).2 (by simp); simp at this
  | x :: a, [], _, _, h => by have := (h x).1 (by simp); simp at this
  | x :: a, y :: b, ha, hb, h => by
    have ha2 := List.pairwise_cons.1 ha
    have hb2 := List.pairwise_cons.1 hb
    have exy : x = y := by
      rcases List.mem_cons.1 ((h x).1 (by simp)) with h1 | h1
      · exact h1
      · rcases List.mem_cons.1 ((h y).2 (by simp)) with h2 | h2
        · exact h2.symm
        · have h3 := hb2.1 x h1
          have h4 := ha2.1 y h2
          rw [cmpC_swap] at h3
          omega
    subst exy
    congr 1
    refine upC_ext ha2.2 hb2.2 fun z => ?_
    constructor
    · intro hz
      rcases List.mem_cons.1 ((h z).1 (by simp [hz])) with h1 | h1
      · have := ha2.1 z hz; rw [h1, cmpC_self] at this; omega
      · exact h1
    · intro hz
      rcases List.mem_cons.1 ((h z).2 (by simp [hz])) with h1 | h1
      · have := hb2.1 z hz; rw [h1, cmpC_self] at this; omega
      · exact h1
def leC (a b : Cb) : Bool := decide (cmpC a b ≤ 0)
theorem leC_trans (a b c : Cb) (h1 : leC a b = true) (h2 : leC b c = true) : leC a c = true := by
  unfold leC at *
  simp only [decide_eq_true_eq] at *
  by_cases e1 : cmpC a b = 0
  · rw [cmpC_zero e1]; exact h2
  · by_cases e2 : cmpC b c = 0
    · rw [← cmpC_zero e2]; exact h1
    · have := cmpC_trans (a := a) (b := b) (c := c) (by omega) (by omega)
      omega
theorem leC_total (a b : Cb) : (leC a b || leC b a) = true := by
  unfold leC
  simp only [Bool.or_eq_true, decide_eq_true_eq]
  rw [cmpC_swap a b]
  omega
/-- All combinations in order. -/
def srtC (S K : Nat) : List Cb := (allC S K).mergeSort leC
theorem srtC_perm (S K : Nat) : (srtC S K).Perm (allC S K) := List.mergeSort_perm _ _
theorem mem_srtC {S K : Nat} {c : Cb} : c ∈ srtC S K ↔ CbOk S K c := ((srtC_perm S K).mem_iff).trans mem_allC
theorem srtC_up (S K : Nat) : UpC (srtC S K) := by
  have h1 : (srtC S K).Pairwise fun a b => leC a b = true := List.pairwise_mergeSort leC_trans leC_total _
  have h2 : (srtC S K).Nodup := (srtC_perm S K).nodup_iff.2 (allC_nodup S K)
  refine (h1.and h2).imp fun {a b} h => ?_
  have h3 : cmpC a b ≤ 0 := by simpa [leC] using h.1
  have h4 : cmpC a b ≠ 0 := fun e => h.2 (cmpC_zero e)
  omega
/-! ## The least ones -/
/-- A set of combinations: with one also all that contain it. -/
def UpS (S K : Nat) (p : Cb → Bool) : Prop := ∀ a b, CbOk S K a → CbOk S K b → a.inB b = true → p a = true → p b = true
def minB (S K : Nat) (p : Cb → Bool) (c : Cb) : Bool := p c && (allC S K).all fun x => !(x.inB c && !decide (x = c) && p x)
theorem minB_iff {S K : Nat} {p : Cb → Bool} {c : Cb} : minB S K p c = true ↔ p c = true ∧ ∀ x, CbOk S K x → x.inB c = true → p x = true → x = c := by
  unfold minB
  simp only [Bool.and_eq_true, List.all_eq_true, Bool.not_eq_true', Bool.and_eq_false_iff, Bool.not_eq_false', decide_eq_true_eq, mem_allC]
  refine ⟨fun h => ⟨h.1, fun x hx h1 h2 => ?_⟩, fun h => ⟨h.1, fun x hx => ?_⟩⟩
  · rcases h.2 x hx with (h3 | h3) | h3
    · rw [h1] at h3; cases h3
    · exact h3
    · rw [h2] at h3; cases h3
  · cases h1 : x.inB c
    · exact .inl (.inl rfl)
    · cases h2 : p x
      · exact .inr rfl
      · exact .inl (.inr (h.2 x hx h1 h2))
/-- The least combinations of a set, in order. -/
def leaC (S K : Nat) (p : Cb → Bool) : List Cb := (srtC S K).filter (minB S K p)
theorem mem_leaC {S K : Nat} {p : Cb → Bool} {c : Cb} : c ∈ leaC S K p ↔ CbOk S K c ∧ minB S K p c = true := by
  unfold leaC
  rw [List.mem_filter, mem_srtC]
theorem leaC_up (S K : Nat) (p : Cb → Bool) : UpC (leaC S K p) := List.Pairwise.filter _ (srtC_up S K)
theorem sub_len {a b : List Nat} (ha : a.Nodup) (h : ∀ x ∈ a, x ∈ b) : a.length ≤ b.length := by
  have h1 := sum_sub (f := fun _ => 1) (fun _ => by omega) ha h
  have e : ∀ l : List Nat, (l.map fun _ => (1 : Int)).sum = l.length := fun l => by
    induction l with
    | nil => rfl
    | cons x l ih => rw [List.map_cons, List.sum_cons, ih, List.length_cons]; omega
  rw [e, e] at h1
  omega
theorem inB_len {a b : Cb} {S K : Nat} (ha : CbOk S K a) (h : a.inB b = true) : a.st.length ≤ b.st.length ∧ a.ky.length ≤ b.ky.length := by
  obtain ⟨h1, h2⟩ := Cb.inB_iff.1 h
  exact ⟨sub_len (up_nodup ha.s1) h1, sub_len (up_nodup ha.k1) h2⟩
theorem up_same {a b : List Nat} (ha : a.Pairwise (· < ·)) (hb : b.Pairwise (· < ·)) (h : ∀ x ∈ a, x ∈ b) (hl : b.length ≤ a.length) : a = b := by
  refine up_ext ha hb fun x => ⟨h x, fun hx => ?_⟩
  by_cases hm : x ∈ a
  · exact hm
  · exfalso
    have h1 := sub_len (a := x :: a) (b := b) (List.nodup_cons.2 ⟨hm, up_nodup ha⟩) fun y hy => by
      rcases List.mem_cons.1 hy with rfl | hy
      · exact hx
      · exact h y hy
    simp at h1
    omega
theorem inB_same {a b : Cb} {S K : Nat} (ha : CbOk S K a) (hb : CbOk S K b) (h : a.inB b = true) (hl : b.size ≤ a.size) : a = b := by
  have h1 := inB_len ha h
  obtain ⟨h2, h3⟩ := Cb.inB_iff.1 h
  unfold Cb.size at hl
  have e1 := up_same ha.s1 hb.s1 h2 (by omega)
  have e2 := up_same ha.k1 hb.k1 h3 (by omega)
  obtain ⟨a1, a2⟩ := a
  obtain ⟨b1, b2⟩ := b
  dsimp only at e1 e2
  rw [e1, e2]
theorem inB_trans {a b c : Cb} (h1 : a.inB b = true) (h2 : b.inB c = true) : a.inB c = true := by
  rw [Cb.inB_iff] at *
  exact ⟨fun x hx => h2.1 x (h1.1 x hx), fun x hx => h2.2 x (h1.2 x hx)⟩
theorem inB_refl (a : Cb) : a.inB a = true := Cb.inB_iff.2 ⟨fun _ h => h, fun _ h => h⟩
/-- What is in a set contains a least one. -/
theorem exists_min {S K : Nat} {p : Cb → Bool} : ∀ (n : Nat) (c : Cb), c.size ≤ n → CbOk S K c → p c = true → ∃ x, CbOk S K x ∧ x.inB c = true ∧ minB S K p x = true := by
  intro n
  induction n with
  | zero =>
    intro c hn hc hp
    refine ⟨c, hc, inB_refl c, minB_iff.2 ⟨hp, fun x hx h1 _ => inB_same hx hc h1 (by omega)⟩⟩
  | succ n ih =>
    intro c hn hc hp
    by_cases hm : minB S K p c = true
    · exact ⟨c, hc, inB_refl c, hm⟩
    · rw [minB_iff] at hm
      have : ∃ x, CbOk S K x ∧ x.inB c = true ∧ p x = true ∧ x ≠ c := by
        refine Classical.byContradiction fun hno => hm ⟨hp, fun x h1 h2 h3 => Classical.byContradiction fun h4 => hno ⟨x, h1, h2, h3, h4⟩⟩
      obtain ⟨x, h1, h2, h3, h4⟩ := this
      have hsz : x.size < c.size := by
        refine Classical.byContradiction fun hge => h4 (inB_same h1 hc h2 (by omega))
      obtain ⟨y, k1, k2, k3⟩ := ih x (by omega) h1 h3
      exact ⟨y, k1, inB_trans k2 h2, k3⟩
/-- A combination is in the set exactly if it contains a least one. -/
theorem lea_iff {S K : Nat} {p : Cb → Bool} (hp : UpS S K p) {c : Cb} (hc : CbOk S K c) : p c = true ↔ ∃ x ∈ leaC S K p, x.inB c = true := by
  constructor
  · intro h
    obtain ⟨x, h1, h2, h3⟩ := exists_min c.size c (Nat.le_refl _) hc h
    exact ⟨x, mem_leaC.2 ⟨h1, h3⟩, h2⟩
  · rintro ⟨x, hx, h2⟩
    obtain ⟨h1, h3⟩ := mem_leaC.1 hx
    exact hp x c h1 hc h2 (minB_iff.1 h3).1
/-! ## The program's search -/
def stepL (p : Cb → Bool) (out : List Cb) (c : Cb) : List Cb := if out.any (fun x => x.inB c) || !p c then out else out ++ [c]
theorem up_before {l : List Cb} (h : UpC l) {k : Nat} {c x : Cb} (hc : l[k]? = some c) (hx : x ∈ l) (hlt : cmpC x c < 0) : x ∈ l.take k := by
  obtain ⟨j, hj⟩ := List.mem_iff_getElem?.1 hx
  obtain ⟨hk, ek⟩ := List.getElem?_eq_some_iff.1 hc
  obtain ⟨hjl, ej⟩ := List.getElem?_eq_some_iff.1 hj
  by_cases hjk : j < k
  · exact List.mem_iff_getElem?.2 ⟨j, by rw [List.getElem?_take, if_pos hjk, hj]⟩
  · exfalso
    by_cases e : j = k
    · subst e
      rw [hc] at hj
      injection hj with hj
      rw [hj, cmpC_self] at hlt
      omega
    · have := List.pairwise_iff_getElem.1 h k j hk hjl (by omega)
      rw [ek, ej, cmpC_swap] at this
      omega
theorem up_not_mem {l : List Cb} (h : UpC l) {k : Nat} {c : Cb} (hc : l[k]? = some c) : c ∉ l.take k := fun hm => by
  obtain ⟨j, hj⟩ := List.mem_iff_getElem?.1 hm
  rw [List.getElem?_take] at hj
  split at hj
  · obtain ⟨hk, ek⟩ := List.getElem?_eq_some_iff.1 hc
    obtain ⟨hjl, ej⟩ := List.getElem?_eq_some_iff.1 hj
    have := List.pairwise_iff_getElem.1 h j k hjl hk (by omega)
    rw [ek, ej, cmpC_self] at this
    omega
  · cases hj
/-- The least ones among the first ones. -/
def leaT (S K : Nat) (p : Cb → Bool) (k : Nat) : List Cb := ((srtC S K).take k).filter (minB S K p)
theorem leaT_zero (S K : Nat) (p : Cb → Bool) : leaT S K p 0 = [] := by simp [leaT]
theorem leaT_all (S K : Nat) (p : Cb → Bool) {k : Nat} (h : (srtC S K).length ≤ k) : leaT S K p k = leaC S K p := by
  unfold leaT
  rw [List.take_of_length_le h]
  rfl
theorem leaT_le (S K : Nat) (p : Cb → Bool) (k : Nat) : (leaT S K p k).length ≤ (leaC S K p).length := by
  unfold leaT leaC
  exact List.Sublist.length_le (List.Sublist.filter _ (List.take_sublist _ _))
theorem leaT_step {S K : Nat} {p : Cb → Bool} {k : Nat} {c : Cb} (hc : (srtC S K)[k]? = some c) : leaT S K p (k + 1) = stepL p (leaT S K p k) c := by
  have hok : CbOk S K c := mem_srtC.1 (List.mem_of_getElem? hc)
  unfold stepL leaT
  rw [List.take_add_one, hc, Option.toList_some, List.filter_append]
  by_cases hm : minB S K p c = true
  · rw [if_neg]
    · simp [hm]
    · simp only [Bool.or_eq_true, List.any_eq_true, Bool.not_eq_true', not_or, not_exists, not_and]
      refine ⟨fun x hx h1 => ?_, by rw [(minB_iff.1 hm).1]; simp⟩
      obtain ⟨h2, h3⟩ := List.mem_filter.1 hx
      have e := (minB_iff.1 hm).2 x (mem_srtC.1 (List.mem_of_mem_take h2)) h1 (minB_iff.1 h3).1
      subst e
      exact up_not_mem (srtC_up S K) hc h2
  · rw [if_pos]
    · simp [hm]
    · simp only [Bool.or_eq_true, List.any_eq_true, Bool.not_eq_true']
      cases hp : p c
      · exact .inr rfl
      · left
        obtain ⟨x, h1, h2, h3⟩ := exists_min c.size c (Nat.le_refl _) hok hp
        have hne : x ≠ c := fun e => hm (e ▸ h3)
        have hsz : x.size < c.size := Classical.byContradiction fun hge => hne (inB_same h1 hok h2 (by omega))
        have hlt : cmpC x c < 0 := by
          have a : cmpC x c ≠ 0 := fun e => hne (cmpC_zero e)
          refine Classical.byContradiction fun hge => ?_
          have := cmpC_size (a := c) (b := x) (by rw [cmpC_swap x c]; omega)
          omega
        exact ⟨x, List.mem_filter.2 ⟨up_before (srtC_up S K) hc (mem_srtC.2 h1) hlt, h3⟩, h2⟩
def leaE (S K : Nat) (p : Cb → Bool) : Int := if 200 < (leaC S K p).length then 5 else 0
/-! ## The document's search: all sets of bits -/
def cbOf (S K set : Nat) : Cb := ⟨numB set S, numB (set >>> S) K⟩
theorem cbOf_ok (S K set : Nat) : CbOk S K (cbOf S K set) := ⟨numB_up _ _, fun _ hx => (mem_numB.1 hx).1, numB_up _ _, fun _ hx => (mem_numB.1 hx).1⟩
theorem cbOf_inj {S K a b : Nat} (ha : a < 2 ^ (S + K)) (hb : b < 2 ^ (S + K)) (h : cbOf S K a = cbOf S K b) : a = b := by
  injection h with h1 h2
  refine Nat.eq_of_testBit_eq fun i => ?_
  by_cases hi : i < S
  · have e : i ∈ numB a S ↔ i ∈ numB b S := by rw [h1]
    rw [mem_numB, mem_numB] at e
    cases h3 : a.testBit i <;> cases h4 : b.testBit i <;> simp [hi, h3, h4] at e ⊢
  · by_cases hi2 : i < S + K
    · have e : i - S ∈ numB (a >>> S) K ↔ i - S ∈ numB (b >>> S) K := by rw [h2]
      rw [mem_numB, mem_numB, Nat.testBit_shiftRight, Nat.testBit_shiftRight, show S + (i - S) = i by omega] at e
      have hk : i - S < K := by omega
      cases h3 : a.testBit i <;> cases h4 : b.testBit i <;> simp [hk, h3, h4] at e ⊢
    · have := Nat.pow_le_pow_right (show 1 ≤ 2 by omega) (show S + K ≤ i by omega)
      rw [Nat.testBit_lt_two_pow (by omega), Nat.testBit_lt_two_pow (by omega)]
theorem cbOf_all {S K : Nat} {c : Cb} (h : CbOk S K c) : ∃ set, set < 2 ^ (S + K) ∧ cbOf S K set = c := by
  refine ⟨bitsOf (fun x => if x < S then decide (x ∈ c.st) else decide (x - S ∈ c.ky)) (S + K), bitsOf_lt _ _, ?_⟩
  obtain ⟨cs, ck⟩ := c
  unfold cbOf
  congr 1
  · refine up_ext (numB_up _ _) h.s1 fun x => ?_
    rw [mem_numB, bitsOf_bit]
    constructor
    · rintro ⟨h1, h2⟩
      simpa [h1, show x < S + K by omega] using h2
    · intro hx
      have := h.s2 x hx
      refine ⟨this, ?_⟩
      simpa [this, show x < S + K by omega] using hx
  · refine up_ext (numB_up _ _) h.k1 fun x => ?_
    rw [mem_numB, Nat.testBit_shiftRight, bitsOf_bit]
    constructor
    · rintro ⟨h1, h2⟩
      simpa [show ¬ S + x < S by omega, show S + x < S + K by omega, show S + x - S = x by omega] using h2
    · intro hx
      have := h.k2 x hx
      refine ⟨this, ?_⟩
      simpa [show ¬ S + x < S by omega, show S + x < S + K by omega, show S + x - S = x by omega] using hx
/-- A set without one of its bits. -/
theorem sub_bit {set i : Nat} (h : set.testBit i = true) (j : Nat) : (set - 2 ^ i).testBit j = (set.testBit j && !decide (j = i)) := by
  have hlo : set % 2 ^ i < 2 ^ i := Nat.mod_lt _ (Nat.two_pow_pos i)
  have hp : 2 ^ (i + 1) = 2 ^ i + 2 ^ i := by rw [Nat.pow_succ]; omega
  have e1 : set = 2 ^ (i + 1) * (set / 2 ^ (i + 1)) + (2 ^ i + set % 2 ^ i) := by
    have h1 := Nat.div_add_mod set (2 ^ (i + 1))
    have h2 : set % 2 ^ (i + 1) = 2 ^ i + set % 2 ^ i := by
      rw [Nat.testBit_eq_decide_div_mod_eq, decide_eq_true_eq] at h
      rw [Nat.pow_succ, Nat.mod_mul, h]
      omega
    omega
  have e2 : set - 2 ^ i = 2 ^ (i + 1) * (set / 2 ^ (i + 1)) + set % 2 ^ i := by omega
  have t1 : set.testBit j = if j < i + 1 then (2 ^ i + set % 2 ^ i).testBit j else (set / 2 ^ (i + 1)).testBit (j - (i + 1)) := by
    rw [show set.testBit j = (2 ^ (i + 1) * (set / 2 ^ (i + 1)) + (2 ^ i + set % 2 ^ i)).testBit j by rw [← e1]]
    exact Nat.testBit_two_pow_mul_add _ (by omega) j
  rw [e2, Nat.testBit_two_pow_mul_add _ (by omega) j, t1]
  by_cases hj : j < i + 1
  · rw [if_pos hj, if_pos hj]
    by_cases hji : j = i
    · subst hji
      rw [Nat.testBit_lt_two_pow hlo]
      simp
    · rw [Nat.testBit_two_pow_add_gt (by omega)]
      simp [hji]
  · rw [if_neg hj, if_neg hj]
    simp [show j ≠ i by omega]
def refL (S K : Nat) (p : Cb → Bool) (set : Nat) : Bool := p (cbOf S K set) && (List.range (S + K)).all fun i => !(set.testBit i && p (cbOf S K (set - 2 ^ i)))
theorem refL_min {S K : Nat} {p : Cb → Bool} (hp : UpS S K p) (set : Nat) : refL S K p set = minB S K p (cbOf S K set) := by
  rw [Bool.eq_iff_iff, minB_iff]
  unfold refL
  simp only [Bool.and_eq_true, List.all_eq_true, List.mem_range, Bool.not_eq_true', Bool.and_eq_false_iff]
  refine ⟨fun h => ⟨h.1, fun x hx h1 h2 => ?_⟩, fun h => ⟨h.1, fun i hi => ?_⟩⟩
  · refine Classical.byContradiction fun hne => ?_
    obtain ⟨i1, i2⟩ := Cb.inB_iff.1 h1
    have : (∃ e ∈ (cbOf S K set).st, e ∉ x.st) ∨ ∃ e ∈ (cbOf S K set).ky, e ∉ x.ky := by
      refine Classical.byContradiction fun hno => hne ?_
      have a1 : ∀ e ∈ (cbOf S K set).st, e ∈ x.st := fun e he => Classical.byContradiction fun hc => hno (.inl ⟨e, he, hc⟩)
      have a2 : ∀ e ∈ (cbOf S K set).ky, e ∈ x.ky := fun e he => Classical.byContradiction fun hc => hno (.inr ⟨e, he, hc⟩)
      have hok := cbOf_ok S K set
      have e1 := up_ext hx.s1 hok.s1 fun y => ⟨i1 y, a1 y⟩
      have e2 := up_ext hx.k1 hok.k1 fun y => ⟨i2 y, a2 y⟩
      obtain ⟨x1, x2⟩ := x
      dsimp only at e1 e2
      rw [e1, e2]
    rcases this with ⟨e, he, hn⟩ | ⟨e, he, hn⟩
    · obtain ⟨b1, b2⟩ := mem_numB.1 he
      rcases h.2 e (by omega) with h3 | h3
      · rw [b2] at h3; cases h3
      · have : x.inB (cbOf S K (set - 2 ^ e)) = true := Cb.inB_iff.2 ⟨fun y hy => by
          obtain ⟨c1, c2⟩ := mem_numB.1 (i1 y hy)
          refine mem_numB.2 ⟨c1, ?_⟩
          rw [sub_bit b2, c2]
          have : y ≠ e := fun h => hn (h ▸ hy)
          simp [this], fun y hy => by
          obtain ⟨c1, c2⟩ := mem_numB.1 (i2 y hy)
          refine mem_numB.2 ⟨c1, ?_⟩
          rw [Nat.testBit_shiftRight] at c2 ⊢
          rw [sub_bit b2, c2]
          simp; omega⟩
        rw [hp x _ hx (cbOf_ok _ _ _) this h2] at h3
        cases h3
    · obtain ⟨b1, b2⟩ := mem_numB.1 he
      rw [Nat.testBit_shiftRight] at b2
      rcases h.2 (S + e) (by omega) with h3 | h3
      · rw [b2] at h3; cases h3
      · have : x.inB (cbOf S K (set - 2 ^ (S + e))) = true := Cb.inB_iff.2 ⟨fun y hy => by
          obtain ⟨c1, c2⟩ := mem_numB.1 (i1 y hy)
          refine mem_numB.2 ⟨c1, ?_⟩
          rw [sub_bit b2, c2]
          simp; omega, fun y hy => by
          obtain ⟨c1, c2⟩ := mem_numB.1 (i2 y hy)
          refine mem_numB.2 ⟨c1, ?_⟩
          rw [Nat.testBit_shiftRight] at c2 ⊢
          rw [sub_bit b2, c2]
          have : y ≠ e := fun h => hn (h ▸ hy)
          simp; omega⟩
        rw [hp x _ hx (cbOf_ok _ _ _) this h2] at h3
        cases h3
  · cases hb : set.testBit i
    · exact .inl rfl
    · right
      cases hq : p (cbOf S K (set - 2 ^ i))
      · rfl
      · exfalso
        have hin : (cbOf S K (set - 2 ^ i)).inB (cbOf S K set) = true := Cb.inB_iff.2 ⟨fun y hy => by
          obtain ⟨c1, c2⟩ := mem_numB.1 hy
          rw [sub_bit hb] at c2
          simp only [Bool.and_eq_true] at c2
          exact mem_numB.2 ⟨c1, c2.1⟩, fun y hy => by
          obtain ⟨c1, c2⟩ := mem_numB.1 hy
          rw [Nat.testBit_shiftRight, sub_bit hb] at c2
          simp only [Bool.and_eq_true] at c2
          exact mem_numB.2 ⟨c1, by rw [Nat.testBit_shiftRight]; exact c2.1⟩⟩
        have e := h.2 _ (cbOf_ok _ _ _) hin hq
        injection e with e1 e2
        by_cases hiS : i < S
        · have : i ∈ numB (set - 2 ^ i) S := by rw [e1]; exact mem_numB.2 ⟨hiS, hb⟩
          have := (mem_numB.1 this).2
          rw [sub_bit hb] at this
          simp at this
        · have : i - S ∈ numB ((set - 2 ^ i) >>> S) K := by
            rw [e2]
            exact mem_numB.2 ⟨by omega, by rw [Nat.testBit_shiftRight, show S + (i - S) = i by omega]; exact hb⟩
          have := (mem_numB.1 this).2
          rw [Nat.testBit_shiftRight, show S + (i - S) = i by omega, sub_bit hb] at this
          simp at this
/-- The least ones of the first sets, in order. -/
structure RefO (S K : Nat) (p : Cb → Bool) (n : Nat) (out : List Cb) : Prop where
  up : UpC out
  mem : ∀ c, c ∈ out ↔ ∃ set, set < n ∧ refL S K p set = true ∧ cbOf S K set = c
theorem RefO.zero (S K : Nat) (p : Cb → Bool) : RefO S K p 0 [] := ⟨List.Pairwise.nil, fun c => ⟨fun h => (by cases h), fun ⟨_, h, _⟩ => by omega⟩⟩
theorem RefO.skip {S K : Nat} {p : Cb → Bool} {n : Nat} {out : List Cb} (h : RefO S K p n out) (hn : refL S K p n = false) : RefO S K p (n + 1) out := by
  refine ⟨h.up, fun c => ?_⟩
  rw [h.mem]
  constructor
  · rintro ⟨s, h1, h2⟩; exact ⟨s, by omega, h2⟩
  · rintro ⟨s, h1, h2, h3⟩
    by_cases e : s = n
    · subst e; rw [hn] at h2; cases h2
    · exact ⟨s, by omega, h2, h3⟩
theorem RefO.put {S K : Nat} {p : Cb → Bool} {n : Nat} {out : List Cb} (hN : n < 2 ^ (S + K)) (h : RefO S K p n out) (hn : refL S K p n = true) {at_ : Nat} (hat : at_ ≤ out.length)
    (hlo : at_ = 0 ∨ ¬ cmpC (cbOf S K n) (out.getD (at_ - 1) default) < 0) (hhi : ∀ i, at_ ≤ i → i < out.length → cmpC (cbOf S K n) (out.getD i default) < 0) : RefO S K p (n + 1) (out.take at_ ++ cbOf S K n :: out.drop at_) := by
  have hnm : cbOf S K n ∉ out := fun hm => by
    obtain ⟨s, h1, _, h3⟩ := (h.mem _).1 hm
    have := cbOf_inj (by omega) hN h3
    omega
  have hup := h.up
  have hlow : ∀ a ∈ out.take at_, cmpC a (cbOf S K n) < 0 := fun a ha => by
    have hne : a ≠ cbOf S K n := fun e => hnm (e ▸ List.mem_of_mem_take ha)
    obtain ⟨i, hi⟩ := List.mem_iff_getElem?.1 ha
    rw [List.getElem?_take] at hi
    split at hi
    · rename_i hia
      obtain ⟨hil, ei⟩ := List.getElem?_eq_some_iff.1 hi
      rcases hlo with h0 | hlo
      · omega
      · have hl1 : at_ - 1 < out.length := by omega
        rw [List.getD_eq_getElem?_getD, List.getElem?_eq_getElem hl1, Option.getD_some] at hlo
        have h1 : cmpC out[at_ - 1] (cbOf S K n) < 0 := by
          have hz : cmpC out[at_ - 1] (cbOf S K n) ≠ 0 := fun e => hnm ((cmpC_zero e) ▸ List.getElem_mem hl1)
          rw [cmpC_swap out[at_ - 1]] at hlo
          omega
        by_cases e : i = at_ - 1
        · subst e; rw [← ei]; exact h1
        · have := List.pairwise_iff_getElem.1 hup i (at_ - 1) hil hl1 (by omega)
          rw [ei] at this
          exact cmpC_trans this h1
    · cases hi
  have hhigh : ∀ a ∈ out.drop at_, cmpC (cbOf S K n) a < 0 := fun a ha => by
    obtain ⟨i, hi⟩ := List.mem_iff_getElem?.1 ha
    rw [List.getElem?_drop] at hi
    obtain ⟨hil, ei⟩ := List.getElem?_eq_some_iff.1 hi
    have := hhi (at_ + i) (by omega) hil
    rw [List.getD_eq_getElem?_getD, hi] at this
    exact this
  refine ⟨?_, fun c => ?_⟩
  · refine List.pairwise_append.2 ⟨hup.sublist (List.take_sublist _ _), List.pairwise_cons.2 ⟨hhigh, hup.sublist (List.drop_sublist _ _)⟩, fun a ha b hb => ?_⟩
    rcases List.mem_cons.1 hb with rfl | hb
    · exact hlow a ha
    · exact cmpC_trans (hlow a ha) (hhigh b hb)
  · have e : c ∈ out.take at_ ++ cbOf S K n :: out.drop at_ ↔ c = cbOf S K n ∨ c ∈ out := by
      rw [List.mem_append, List.mem_cons, ← (show c ∈ out.take at_ ++ out.drop at_ ↔ c ∈ out by rw [List.take_append_drop]), List.mem_append]
      constructor
      · rintro (h | h | h)
        · exact .inr (.inl h)
        · exact .inl h
        · exact .inr (.inr h)
      · rintro (h | h | h)
        · exact .inr (.inl h)
        · exact .inl h
        · exact .inr (.inr h)
    rw [e, h.mem]
    constructor
    · rintro (rfl | ⟨s, h1, h2⟩)
      · exact ⟨n, by omega, hn, rfl⟩
      · exact ⟨s, by omega, h2⟩
    · rintro ⟨s, h1, h2, h3⟩
      by_cases es : s = n
      · subst es; exact .inl h3.symm
      · exact .inr ⟨s, by omega, h2, h3⟩
theorem RefO.all {S K : Nat} {p : Cb → Bool} (hp : UpS S K p) {out : List Cb} (h : RefO S K p (2 ^ (S + K)) out) : out = leaC S K p := by
  refine upC_ext h.up (leaC_up S K p) fun c => ?_
  rw [h.mem, mem_leaC]
  constructor
  · rintro ⟨s, _, h2, rfl⟩
    rw [refL_min hp] at h2
    exact ⟨cbOf_ok _ _ _, h2⟩
  · rintro ⟨h1, h2⟩
    obtain ⟨s, hs, rfl⟩ := cbOf_all h1
    exact ⟨s, hs, by rw [refL_min hp]; exact h2, rfl⟩
/-! ## How many keys never starve -/
def safF (K : Nat) (p : List Nat → Bool) : Nat → Int
  | 0 => K
  | n + 1 => if ((numB n K).length : Int) ≤ safF K p n ∧ p (numB n K) = true then ((numB n K).length : Int) - 1 else safF K p n
def safN (K : Nat) (p : List Nat → Bool) : Int := safF K p (2 ^ K)
theorem safF_le {K : Nat} {p : List Nat → Bool} : ∀ n, safF K p n ≤ K
  | 0 => Int.le_refl _
  | n + 1 => by
    have := safF_le (K := K) (p := p) n
    unfold safF
    split <;> omega
theorem safF_lt {K : Nat} {p : List Nat → Bool} : ∀ n s, s < n → p (numB s K) = true → safF K p n < (numB s K).length
  | 0, s, h, _ => by omega
  | n + 1, s, h, hp => by
    have e : safF K p (n + 1) ≤ safF K p n := by
      rw [safF]
      split <;> omega
    by_cases es : s = n
    · subst es
      rw [safF]
      by_cases hc : ((numB s K).length : Int) ≤ safF K p s
      · rw [if_pos ⟨hc, hp⟩]; omega
      · rw [if_neg (fun h => hc h.1)]; omega
    · have := safF_lt n s (by omega) hp
      omega
theorem safF_is {K : Nat} {p : List Nat → Bool} : ∀ n, safF K p n = K ∨ ∃ s, s < n ∧ p (numB s K) = true ∧ safF K p n = ((numB s K).length : Int) - 1
  | 0 => .inl rfl
  | n + 1 => by
    rw [safF]
    by_cases hc : ((numB n K).length : Int) ≤ safF K p n ∧ p (numB n K) = true
    · rw [if_pos hc]
      exact .inr ⟨n, by omega, hc.2, rfl⟩
    · rw [if_neg hc]
      rcases safF_is (K := K) (p := p) n with h | ⟨s, h1, h2, h3⟩
      · exact .inl h
      · exact .inr ⟨s, by omega, h2, h3⟩
/-- A set of keys that starves is greater than what is safe. -/
theorem safN_lt {K : Nat} {p : List Nat → Bool} {l : List Nat} (h1 : l.Pairwise (· < ·)) (h2 : ∀ x ∈ l, x < K) (hp : p l = true) : safN K p < l.length := by
  obtain ⟨s, hs, e⟩ := numB_of h1 h2
  have := safF_lt (K := K) (p := p) (2 ^ K) s hs (by rw [e]; exact hp)
  rw [e] at this
  exact this
theorem safN_nn {K : Nat} {p : List Nat → Bool} (h0 : p [] = false) : 0 ≤ safN K p := by
  rcases safF_is (K := K) (p := p) (2 ^ K) with h | ⟨s, _, h2, h3⟩
  · unfold safN; omega
  · unfold safN
    have : (numB s K).length ≠ 0 := fun e => by
      rw [List.length_eq_zero_iff.1 e, h0] at h2
      cases h2
    omega
theorem safN_mono {K : Nat} {p q : List Nat → Bool} (h : ∀ l, p l = true → q l = true) : safN K q ≤ safN K p := by
  rcases safF_is (K := K) (p := p) (2 ^ K) with h1 | ⟨s, h1, h2, h3⟩
  · have := safF_le (K := K) (p := q) (2 ^ K)
    unfold safN
    omega
  · have := safF_lt (K := K) (p := q) (2 ^ K) s h1 (h _ h2)
    unfold safN
    omega
end Go.Proofs.YtpkbpeeelpgmcaaGreat
