/- Chapter 15: wind systems, combinations, demands: plain. -/
import Derived.Test.YtpkbpeeelpgmcaaGreatXNwBaseM
namespace Go.Proofs.YtpkbpeeelpgmcaaGreat
open Go.Flow

/-- A stop: its chest, and what it takes. -/
structure Sto where
  ch : Int
  tk : List Int
instance : Inhabited Sto := ⟨⟨0, []⟩⟩
def keysN (l : List Sto) : Nat := (l.getD 0 default).tk.length
def badX (x : Int) : Bool := decide (x < 0) || decide (1000000000 < x)
def stoBad (nch K : Nat) (s : Sto) : Bool := decide (s.ch < 0) || decide ((nch : Int) ≤ s.ch) || decide (s.tk.length ≠ K) || s.tk.any badX
/-- What is wrong with the stops of a valid network of so many chests. -/
def stE (nch : Nat) (l : List Sto) : Int :=
  if 8 < l.length then 3 else if l.any (fun s => decide (8 < s.tk.length)) then 3 else if l.length = 0 then 2 else if keysN l = 0 then 2 else if l.any (stoBad nch (keysN l)) then 2 else 0
/-- Indices below a number, ascending. -/
def risB (many : Nat) (l : List Int) : Bool := (List.range l.length).all fun i => decide (0 ≤ l.getD i 0) && decide (l.getD i 0 < many) && (decide (i = 0) || decide (l.getD (i - 1) 0 < l.getD i 0))
theorem ris_nat : ∀ {many : Nat} {l : List Int}, risB many l = true → ∃ k : List Nat, l = k.map Int.ofNat ∧ k.Pairwise (· < ·) ∧ ∀ x ∈ k, x < many := by
  intro many l h
  have key : ∀ i, i < l.length → (0 ≤ l.getD i 0 ∧ l.getD i 0 < many) ∧ (0 < i → l.getD (i - 1) 0 < l.getD i 0) := fun i hi => by
    have := List.all_eq_true.1 h i (List.mem_range.2 hi)
    simp only [Bool.and_eq_true, Bool.or_eq_true, decide_eq_true_eq] at this
    refine ⟨this.1, fun h0 => ?_⟩
    rcases this.2 with h2 | h2
    · omega
    · exact h2
  refine ⟨l.map Int.toNat, ?_, ?_, ?_⟩
  · refine List.ext_getElem (by simp) fun i h1 h2 => ?_
    have := (key i h1).1.1
    rw [List.getD_eq_getElem?_getD, List.getElem?_eq_getElem h1] at this
    simp at this ⊢
    omega
  · rw [List.pairwise_iff_getElem]
    intro i j hi hj hij
    simp only [List.length_map] at hi hj
    have mono : ∀ d, i + d < l.length → 0 < d → l.getD i 0 < l.getD (i + d) 0 := by
      intro d
      induction d with
      | zero => intro _ h; omega
      | succ d ih =>
        intro hd _
        have h1 := (key (i + (d + 1)) hd).2 (by omega)
        rw [show i + (d + 1) - 1 = i + d by omega] at h1
        by_cases h0 : d = 0
        · subst h0
          simpa using h1
        · have := ih (by omega) (by omega)
          omega
    have h1 := mono (j - i) (by omega) (by omega)
    rw [show i + (j - i) = j by omega] at h1
    have a := (key i hi).1.1
    have b := (key j hj).1.1
    rw [List.getD_eq_getElem?_getD, List.getElem?_eq_getElem hi] at h1 a
    rw [List.getD_eq_getElem?_getD, List.getElem?_eq_getElem hj] at h1 b
    simp at h1 a b ⊢
    omega
  · intro x hx
    obtain ⟨y, hy, rfl⟩ := List.mem_map.1 hx
    obtain ⟨i, hi⟩ := List.mem_iff_getElem?.1 hy
    have hlt := (List.getElem?_eq_some_iff.1 hi).1
    have := (key i hlt).1
    rw [List.getD_eq_getElem?_getD, hi] at this
    simp at this
    omega
theorem nat_ris {many : Nat} {k : List Nat} (h1 : k.Pairwise (· < ·)) (h2 : ∀ x ∈ k, x < many) : risB many (k.map Int.ofNat) = true := by
  refine List.all_eq_true.2 fun i hi => ?_
  have hi := List.mem_range.1 hi
  rw [List.length_map] at hi
  have e : ∀ j, j < k.length → (k.map Int.ofNat).getD j 0 = ((k.getD j 0 : Nat) : Int) := fun j hj => by
    rw [List.getD_eq_getElem?_getD, List.getElem?_map, List.getElem?_eq_getElem hj, List.getD_eq_getElem?_getD, List.getElem?_eq_getElem hj]
    rfl
  have hm := h2 _ (List.getElem_mem hi)
  have eg : k.getD i 0 = k[i] := by rw [List.getD_eq_getElem?_getD, List.getElem?_eq_getElem hi]; rfl
  simp only [Bool.and_eq_true, Bool.or_eq_true, decide_eq_true_eq]
  rw [e i hi, eg]
  refine ⟨⟨by omega, by omega⟩, ?_⟩
  by_cases h0 : i = 0
  · exact .inl h0
  · right
    rw [e (i - 1) (by omega)]
    have := List.pairwise_iff_getElem.1 h1 (i - 1) i (by omega) hi (by omega)
    have eg2 : k.getD (i - 1) 0 = k[i - 1] := by rw [List.getD_eq_getElem?_getD, List.getElem?_eq_getElem (by omega)]; rfl
    rw [eg2]
    omega
/-! ## Demands -/
def takeOf (s : Sto) (ks : List Nat) : Int := (ks.map fun k => s.tk.getD k 0).sum
def addAt (o : List Int) (i : Nat) (x : Int) : List Int := o.set i (o.getD i 0 + x)
def dmS (s : Sto) (ks : List Nat) (o : List Int) : List Int := ks.foldl (fun o k => addAt o s.ch.toNat (s.tk.getD k 0)) o
def dmF (l : List Sto) (ks ss : List Nat) (o : List Int) : List Int := ss.foldl (fun o i => dmS (l.getD i default) ks o) o
/-- The demand of a combination for each chest. -/
def dmd (nch : Nat) (l : List Sto) (ss ks : List Nat) : List Int := dmF l ks ss (List.replicate nch 0)
theorem addAt_len (o : List Int) (i : Nat) (x : Int) : (addAt o i x).length = o.length := by simp [addAt]
theorem addAt_at (o : List Int) (i c : Nat) (x : Int) (hc : c < o.length) : (addAt o i x).getD c 0 = o.getD c 0 + if c = i then x else 0 := by
  unfold addAt
  by_cases h : c = i
  · subst h
    simp [List.getD_eq_getElem?_getD, List.getElem?_set_self hc]
  · simp [List.getD_eq_getElem?_getD, List.getElem?_set_ne (Ne.symm h), h]
theorem dmS_len (s : Sto) : ∀ (ks : List Nat) (o : List Int), (dmS s ks o).length = o.length
  | [], _ => rfl
  | k :: ks, o => by
    have := dmS_len s ks (addAt o s.ch.toNat (s.tk.getD k 0))
    rw [addAt_len] at this
    exact this
theorem dmS_at (s : Sto) (c : Nat) : ∀ (ks : List Nat) (o : List Int), c < o.length → (dmS s ks o).getD c 0 = o.getD c 0 + if c = s.ch.toNat then takeOf s ks else 0
  | [], o, _ => by simp [dmS, takeOf]
  | k :: ks, o, hc => by
    have := dmS_at s c ks (addAt o s.ch.toNat (s.tk.getD k 0)) (by rw [addAt_len]; exact hc)
    rw [addAt_at _ _ _ _ hc] at this
    show (dmS s ks (addAt o s.ch.toNat (s.tk.getD k 0))).getD c 0 = _
    rw [this]
    unfold takeOf
    split <;> simp <;> omega
theorem dmF_len (l : List Sto) (ks : List Nat) : ∀ (ss : List Nat) (o : List Int), (dmF l ks ss o).length = o.length
  | [], _ => rfl
  | i :: ss, o => by
    have := dmF_len l ks ss (dmS (l.getD i default) ks o)
    rw [dmS_len] at this
    exact this
theorem dmF_at (l : List Sto) (ks : List Nat) (c : Nat) : ∀ (ss : List Nat) (o : List Int), c < o.length → (dmF l ks ss o).getD c 0 = o.getD c 0 + (ss.map fun i => if c = (l.getD i default).ch.toNat then takeOf (l.getD i default) ks else 0).sum
  | [], o, _ => by simp [dmF]
  | i :: ss, o, hc => by
    have := dmF_at l ks c ss (dmS (l.getD i default) ks o) (by rw [dmS_len]; exact hc)
    rw [dmS_at _ _ _ _ hc] at this
    show (dmF l ks ss (dmS (l.getD i default) ks o)).getD c 0 = _
    rw [this, List.map_cons, List.sum_cons]
    omega
theorem dmd_len (nch : Nat) (l : List Sto) (ss ks : List Nat) : (dmd nch l ss ks).length = nch := by
  unfold dmd
  rw [dmF_len, List.length_replicate]
theorem dmd_at (nch : Nat) (l : List Sto) (ss ks : List Nat) (c : Nat) (hc : c < nch) : (dmd nch l ss ks).getD c 0 = (ss.map fun i => if c = (l.getD i default).ch.toNat then takeOf (l.getD i default) ks else 0).sum := by
  unfold dmd
  rw [dmF_at _ _ _ _ _ (by simpa using hc)]
  simp [List.getD_eq_getElem?_getD, hc]
theorem sum_nn {f : Nat → Int} (hf : ∀ x, 0 ≤ f x) : ∀ a : List Nat, 0 ≤ (a.map f).sum
  | [] => by simp
  | x :: a => by
    have h1 := sum_nn hf a
    have h2 := hf x
    simp only [List.map_cons, List.sum_cons]
    omega
theorem sum_mono {f g : Nat → Int} (h : ∀ x, f x ≤ g x) : ∀ a : List Nat, (a.map f).sum ≤ (a.map g).sum
  | [] => by simp
  | x :: a => by
    have h1 := sum_mono h a
    have h2 := h x
    simp only [List.map_cons, List.sum_cons]
    omega
theorem sum_erase {f : Nat → Int} {x : Nat} : ∀ {b : List Nat}, x ∈ b → (b.map f).sum = f x + ((b.erase x).map f).sum
  | [], h => by cases h
  | y :: b, h => by
    by_cases e : y = x
    · subst e
      simp
    · have hx : x ∈ b := by
        rcases List.mem_cons.1 h with h | h
        · exact absurd h.symm e
        · exact h
      rw [List.erase_cons_tail (by simpa using e), List.map_cons, List.sum_cons, List.map_cons, List.sum_cons, sum_erase hx]
      omega
theorem sum_sub {f : Nat → Int} (hf : ∀ x, 0 ≤ f x) : ∀ {a b : List Nat}, a.Nodup → (∀ x ∈ a, x ∈ b) → (a.map f).sum ≤ (b.map f).sum
  | [], b, _, _ => by simpa using sum_nn hf b
  | x :: a, b, hn, hs => by
    have hx : x ∈ b := hs x (by simp)
    rw [sum_erase hx, List.map_cons, List.sum_cons]
    have hn2 := List.nodup_cons.1 hn
    have := sum_sub hf (a := a) (b := b.erase x) hn2.2 fun y hy => (List.mem_erase_of_ne (fun e => hn2.1 (by rw [← e]; exact hy))).2 (hs y (by simp [hy]))
    omega
theorem up_nodup {l : List Nat} (h : l.Pairwise (· < ·)) : l.Nodup := h.imp fun {a b} h => by omega
/-- The stops are as they should be. -/
structure StoOk (nch : Nat) (l : List Sto) : Prop where
  l8 : l.length ≤ 8
  l1 : 1 ≤ l.length
  k8 : keysN l ≤ 8
  k1 : 1 ≤ keysN l
  ok : ∀ s ∈ l, (0 ≤ s.ch ∧ s.ch < nch) ∧ s.tk.length = keysN l ∧ ∀ x ∈ s.tk, 0 ≤ x ∧ x ≤ 1000000000
theorem stE_ok {nch : Nat} {l : List Sto} (h : stE nch l = 0) : StoOk nch l := by
  unfold stE at h
  split at h
  · cases h
  split at h
  · cases h
  split at h
  · cases h
  split at h
  · cases h
  split at h
  · cases h
  rename_i h1 h2 h3 h4 h5
  have hall : ∀ s ∈ l, stoBad nch (keysN l) s = false := fun s hs => by
    have := h5
    simp only [List.any_eq_true, not_exists, not_and, Bool.not_eq_true] at this
    exact this s hs
  have h2' : ∀ s ∈ l, s.tk.length ≤ 8 := fun s hs => by
    simp only [List.any_eq_true, not_exists, not_and, decide_eq_true_eq] at h2
    have := h2 s hs
    omega
  refine ⟨by omega, by omega, ?_, by omega, fun s hs => ?_⟩
  · unfold keysN
    rw [List.getD_eq_getElem?_getD, List.getElem?_eq_getElem (show 0 < l.length by omega)]
    exact h2' _ (List.getElem_mem _)
  · have h := hall s hs
    unfold stoBad at h
    simp only [Bool.or_eq_false_iff, decide_eq_false_iff_not, Decidable.not_not, List.any_eq_false, badX, Bool.or_eq_true, decide_eq_true_eq, not_or] at h
    refine ⟨by omega, h.1.2, fun x hx => ?_⟩
    have := h.2 x hx
    omega
theorem StoOk.eq {nch : Nat} {l : List Sto} (h : StoOk nch l) : stE nch l = 0 := by
  unfold stE
  have h1 := h.l8
  have h2 := h.l1
  have h3 := h.k1
  have h4 := h.k8
  rw [if_neg (by omega), if_neg, if_neg (by omega), if_neg (by omega), if_neg]
  · simp only [List.any_eq_true, not_exists, not_and, Bool.not_eq_true]
    intro s hs
    have hk := h.ok s hs
    unfold stoBad
    simp only [Bool.or_eq_false_iff, decide_eq_false_iff_not, Decidable.not_not, List.any_eq_false, badX, Bool.or_eq_true, decide_eq_true_eq, not_or]
    refine ⟨⟨⟨by omega, by omega⟩, hk.2.1⟩, fun x hx => ?_⟩
    have := hk.2.2 x hx
    omega
  · simp only [List.any_eq_true, not_exists, not_and, decide_eq_true_eq]
    intro s hs
    have hk := h.ok s hs
    omega
theorem StoOk.tk {nch : Nat} {l : List Sto} (h : StoOk nch l) (i k : Nat) : 0 ≤ (l.getD i default).tk.getD k 0 ∧ (l.getD i default).tk.getD k 0 ≤ 1000000000 := by
  rw [show l.getD i default = l[i]?.getD default from List.getD_eq_getElem?_getD]
  cases hs : l[i]? with
  | none => exact ⟨by simp [show (default : Sto).tk = [] from rfl], by simp [show (default : Sto).tk = [] from rfl]⟩
  | some s =>
    have ho := (h.ok s (List.mem_of_getElem? hs)).2.2
    rw [Option.getD_some, List.getD_eq_getElem?_getD]
    cases hx : s.tk[k]? with
    | none => exact ⟨by simp, by simp⟩
    | some x => exact ho x (List.mem_of_getElem? hx)
theorem sum_bound {f : Nat → Int} {M : Int} (hf : ∀ x, 0 ≤ f x ∧ f x ≤ M) : ∀ a : List Nat, 0 ≤ (a.map f).sum ∧ (a.map f).sum ≤ M * a.length
  | [] => by simp
  | x :: a => by
    have h1 := sum_bound hf a
    have h2 := hf x
    simp only [List.map_cons, List.sum_cons, List.length_cons]
    have : M * ((a.length + 1 : Nat) : Int) = M * a.length + M := by
      rw [Int.natCast_add, Int.mul_add]
      simp
    omega
theorem StoOk.takeOf {nch : Nat} {l : List Sto} (h : StoOk nch l) (i : Nat) (ks : List Nat) : 0 ≤ takeOf (l.getD i default) ks ∧ takeOf (l.getD i default) ks ≤ 1000000000 * ks.length :=
  sum_bound (fun k => h.tk i k) ks
theorem up_len : ∀ {n : Nat} {l : List Nat}, l.Pairwise (· < ·) → (∀ x ∈ l, x < n) → l.length ≤ n := by
  intro n l h hb
  have h1 : ∀ i (hi : i < l.length), i ≤ l[i] := by
    intro i
    induction i with
    | zero => intro _; omega
    | succ i ih =>
      intro hi
      have h1 := ih (by omega)
      have h2 := List.pairwise_iff_getElem.1 h i (i + 1) (by omega) hi (by omega)
      omega
  by_cases h0 : l.length = 0
  · omega
  · have h2 := h1 (l.length - 1) (by omega)
    have h3 := hb _ (List.getElem_mem (show l.length - 1 < l.length by omega))
    omega
/-- A demand is not below 0, and not great. -/
theorem dmd_bd {nch : Nat} {l : List Sto} (h : StoOk nch l) {ss ks : List Nat} (hs : ss.length ≤ 8) (hk : ks.length ≤ 8) : ∀ d ∈ dmd nch l ss ks, 0 ≤ d ∧ d ≤ 64000000000 := fun d hd => by
  obtain ⟨c, hc⟩ := List.mem_iff_getElem?.1 hd
  have hlt := (List.getElem?_eq_some_iff.1 hc).1
  rw [dmd_len] at hlt
  have e := dmd_at nch l ss ks c hlt
  rw [List.getD_eq_getElem?_getD, hc, Option.getD_some] at e
  have hb := sum_bound (f := fun i => if c = (l.getD i default).ch.toNat then takeOf (l.getD i default) ks else 0) (M := 8000000000) (fun i => by
    have h1 := h.takeOf i ks
    have h2 : (1000000000 : Int) * ks.length ≤ 8000000000 := by omega
    split <;> omega) ss
  rw [← e] at hb
  omega
/-- More stops, or more keys, ask for no less. -/
theorem dmd_mono {nch : Nat} {l : List Sto} (h : StoOk nch l) {ss ks ss' ks' : List Nat} (hn : ss.Nodup) (hkn : ks.Nodup) (hs : ∀ x ∈ ss, x ∈ ss') (hk : ∀ x ∈ ks, x ∈ ks') (c : Nat) : (dmd nch l ss ks).getD c 0 ≤ (dmd nch l ss' ks').getD c 0 := by
  by_cases hc : c < nch
  · rw [dmd_at _ _ _ _ _ hc, dmd_at _ _ _ _ _ hc]
    refine Int.le_trans (sum_sub (fun i => ?_) hn hs) (sum_mono (fun i => ?_) ss')
    · have := h.takeOf i ks
      split <;> omega
    · split
      · exact sum_sub (fun k => (h.tk i k).1) hkn hk
      · exact Int.le_refl _
  · rw [List.getD_eq_getElem?_getD, List.getElem?_eq_none (by rw [dmd_len]; omega), List.getD_eq_getElem?_getD, List.getElem?_eq_none (by rw [dmd_len]; omega)]
    exact Int.le_refl _
/-- Only chests of these stops are asked. -/
theorem dmd_zero {nch : Nat} (l : List Sto) {ss : List Nat} (ks : List Nat) {c : Nat} (hc : ∀ i ∈ ss, c ≠ (l.getD i default).ch.toNat) : (dmd nch l ss ks).getD c 0 = 0 := by
  by_cases h : c < nch
  · rw [dmd_at _ _ _ _ _ h]
    have : ss.map (fun i => if c = (l.getD i default).ch.toNat then takeOf (l.getD i default) ks else 0) = ss.map fun _ => 0 := List.map_congr_left fun i hi => by rw [if_neg (hc i hi)]
    rw [this]
    clear this hc
    induction ss with
    | nil => rfl
    | cons x ss ih => simpa using ih
  · rw [List.getD_eq_getElem?_getD, List.getElem?_eq_none (by rw [dmd_len]; omega)]
    rfl
/-! ## Sums outside of a set -/
def sumM : (Nat → Bool) → List Int → Int
  | _, [] => 0
  | c, x :: l => (if c 0 then x else 0) + sumM (fun i => c (i + 1)) l
theorem sumM_out (R : Nat → Bool) : ∀ (ch : List Nat) (ds : List Int), ds.length = ch.length → sumZ ds - held R (ch.zip ds) = sumM (fun i => !R (ch.getD i 0)) ds
  | [], [], _ => rfl
  | [], _ :: _, h => by simp at h
  | _ :: _, [], h => by simp at h
  | c :: ch, d :: ds, h => by
    have ih := sumM_out R ch ds (by simpa using h)
    simp only [List.zip_cons_cons, held, sumZ, sumM, List.getD_cons_zero, List.getD_cons_succ]
    rw [← ih]
    cases R c <;> simp <;> omega
theorem sumM_le : ∀ (ds ds' : List Int) (c c' : Nat → Bool), ds.length = ds'.length → (∀ i, i < ds.length → (if c i then ds.getD i 0 else 0) ≤ if c' i then ds'.getD i 0 else 0) → sumM c ds ≤ sumM c' ds'
  | [], [], _, _, _, _ => Int.le_refl _
  | [], _ :: _, _, _, h, _ => by simp at h
  | _ :: _, [], _, _, h, _ => by simp at h
  | d :: ds, d' :: ds', c, c', h, hp => by
    have ih := sumM_le ds ds' (fun i => c (i + 1)) (fun i => c' (i + 1)) (by simpa using h) fun i hi => by
      have := hp (i + 1) (by simpa using hi)
      simpa using this
    have h0 := hp 0 (by simp)
    simp only [List.getD_cons_zero] at h0
    simp only [sumM]
    omega
/-- Demands that cannot be given: a set of nodes proves it. -/
def Stv (N : Net) (ds : List Int) : Prop := ∃ R, N.A0 R ∧ N.wt false ds R < sumZ ds
theorem Stv.mono {N : Net} {ds ds' : List Int} (hl : ds.length = N.ch.length) (hl' : ds'.length = N.ch.length) (h : ∀ c, ds.getD c 0 ≤ ds'.getD c 0) (hs : Stv N ds) : Stv N ds' := by
  obtain ⟨R, hR, hw⟩ := hs
  refine ⟨R, hR, ?_⟩
  have e1 := sumM_out R N.ch ds hl
  have e2 := sumM_out R N.ch ds' hl'
  have h1 := sumM_le ds ds' (fun i => !R (N.ch.getD i 0)) (fun i => !R (N.ch.getD i 0)) (by omega) fun i _ => by
    have := h i
    split <;> omega
  unfold Net.wt at *
  omega
/-- A network with some of its chests. -/
def subN (N : Net) (S : List Nat) : Net := ⟨N.n, N.tr, S.map fun i => N.ch.getD i 0⟩
/-- Demands starve a network exactly if those of some set of chests are more than its greatest supply. -/
theorem stv_iff {N : Net} {ds : List Int} (hl : ds.length = N.ch.length) (h0 : ∀ d ∈ ds, 0 ≤ d) (used : List Nat) (hu : ∀ c, c < ds.length → c ∉ used → ds.getD c 0 = 0) (cap : List Nat → Int) (Ss : List (List Nat)) (hcap : ∀ S ∈ Ss, ∃ R, Min (subN N S).A1 ((subN N S).out false) R ∧ (subN N S).out false R = cap S) (hSs : ∀ p : Nat → Bool, used.filter p ∈ Ss) :
    Stv N ds ↔ ∃ S ∈ Ss, cap S < sumM (fun i => decide (i ∈ S)) ds := by
  have hnn : ∀ i, 0 ≤ ds.getD i 0 := fun i => by
    rw [List.getD_eq_getElem?_getD]
    cases hd : ds[i]? with
    | none => exact Int.le_refl _
    | some d => exact h0 d (List.mem_of_getElem? hd)
  constructor
  · rintro ⟨R, hR, hw⟩
    refine ⟨used.filter fun i => !R (N.ch.getD i 0), hSs _, ?_⟩
    obtain ⟨T, hT, hTe⟩ := hcap (used.filter fun i => !R (N.ch.getD i 0)) (hSs _)
    have hA : (subN N (used.filter fun i => !R (N.ch.getD i 0))).A1 R := ⟨hR, fun c hc => by
      obtain ⟨i, hi, rfl⟩ := List.mem_map.1 hc
      simpa using (List.mem_filter.1 hi).2⟩
    have h1 := (hT.2 R hA).1
    rw [hTe] at h1
    have e1 := sumM_out R N.ch ds hl
    have h2 := sumM_le ds ds (fun i => !R (N.ch.getD i 0)) (fun i => decide (i ∈ used.filter fun i => !R (N.ch.getD i 0))) rfl fun i hi => by
      by_cases hm : i ∈ used
      · simp only [List.mem_filter, hm, true_and]
        cases R (N.ch.getD i 0) <;> simp
      · rw [hu i hi hm]
        simp
    have h3 : (subN N (used.filter fun i => !R (N.ch.getD i 0))).out false R = N.out false R := rfl
    rw [h3] at h1
    unfold Net.wt at hw
    omega
  · rintro ⟨S, hS, hlt⟩
    obtain ⟨T, hT, hTe⟩ := hcap S hS
    refine ⟨T, hT.1.1, ?_⟩
    have e1 := sumM_out T N.ch ds hl
    have h2 := sumM_le ds ds (fun i => decide (i ∈ S)) (fun i => !T (N.ch.getD i 0)) rfl fun i hi => by
      by_cases hm : i ∈ S
      · have : T (N.ch.getD i 0) = false := hT.1.2 _ (List.mem_map.2 ⟨i, hm, rfl⟩)
        rw [this]
        simp [hm]
      · rw [if_neg (by simpa using hm)]
        have := hnn i
        split <;> omega
    have h3 : (subN N S).out false T = N.out false T := rfl
    rw [h3] at hTe
    unfold Net.wt
    omega
end Go.Proofs.YtpkbpeeelpgmcaaGreat
