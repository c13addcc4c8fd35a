/- A rule for a region that draws its order: an invariant over the set of operations that have run; no program in sight. -/
import Derived.Orders
import Derived.WalkKit
namespace Go.Kq
section
variable {P : Program} {ops : Array Oper} {Q : Exit → Act → World → Prop} {md : Region.Mode}

/-- Every edge that binds leads back to an earlier operation. -/
def backB (md : Region.Mode) (ops : Array Oper) : Bool :=
  (List.range ops.size).all fun i => match ops[i]? with
    | some o => o.after.all fun e => !Region.binds md e || decide (e.on < i)
    | none => true

def unl (listed : Array Bool) : Nat → Nat
  | 0 => 0
  | n + 1 => unl listed n + (if listed.getD n true then 0 else 1)

theorem unl_set_ge {listed : Array Bool} {i : Nat} : ∀ n, n ≤ i → unl (listed.setIfInBounds i true) n = unl listed n
  | 0, _ => rfl
  | n + 1, h => by
    have hne : i ≠ n := by omega
    simp only [unl]
    rw [unl_set_ge n (by omega)]
    simp [Array.getElem?_setIfInBounds_ne hne]

theorem unl_set {listed : Array Bool} {i : Nat} (h : listed.getD i true = false) : ∀ n, i < n → unl (listed.setIfInBounds i true) n + 1 = unl listed n
  | 0, h => by omega
  | n + 1, hn => by
    simp only [unl]
    by_cases hin : i = n
    · subst hin
      rw [unl_set_ge i (Nat.le_refl _)]
      have hlt : i < listed.size := by
        rcases Nat.lt_or_ge i listed.size with h' | h'
        · exact h'
        · simp [Array.getElem?_eq_none h'] at h
      simp [hlt] at h
      simp [hlt, h]
    · have := unl_set h n (by omega)
      have e : (listed.setIfInBounds i true).getD n true = listed.getD n true := by
        simp [Array.getElem?_setIfInBounds_ne hin]
      rw [e]
      omega

theorem unl_zero {listed : Array Bool} : ∀ n, unl listed n = 0 → ∀ i, i < n → listed.getD i true = true
  | 0, _, i, h => by omega
  | n + 1, h, i, hi => by
    simp only [unl] at h
    by_cases hin : i = n
    · subst hin
      cases hb : listed.getD i true with
      | true => rfl
      | false => rw [hb] at h; simp at h
    · exact unl_zero n (by omega) i (by omega)

theorem unl_le (listed : Array Bool) : ∀ n, unl listed n ≤ n
  | 0 => Nat.le_refl _
  | n + 1 => by
    simp only [unl]
    have := unl_le listed n
    split <;> omega

/-- Where all edges lead back, something may come up as long as something is left. -/
theorem ready_nil {listed : Array Bool} (hb : backB md ops = true) (hs : listed.size = ops.size) (h : Region.ready md ops listed = []) :
    ∀ i, i < ops.size → listed.getD i false = true := by
  intro i
  induction i using Nat.strongRecOn with
  | _ i ih =>
    intro hi
    cases hl : listed.getD i false with
    | true => rfl
    | false =>
      exfalso
      have hmem : i ∈ Region.ready md ops listed := by
        unfold Region.ready
        refine List.mem_filter.2 ⟨List.mem_range.2 hi, ?_⟩
        have hsz : i < listed.size := by omega
        have h1 : listed.getD i true = false := by simp [hsz] at hl ⊢; exact hl
        have ho : ops[i]? = some ops[i] := Array.getElem?_eq_getElem hi
        rw [h1, ho]
        simp only [Bool.not_false, Bool.true_and, Option.map_some, Option.getD_some]
        refine Array.all_eq_true_iff_forall_mem.2 fun e he => ?_
        have hback := List.all_eq_true.1 hb i (List.mem_range.2 hi)
        rw [ho] at hback
        have := Array.all_eq_true_iff_forall_mem.1 hback e he
        cases hbd : Region.binds md e with
        | false => rfl
        | true =>
          rw [hbd] at this
          simp at this
          simp [ih e.on this (by omega)]
      rw [h] at hmem
      cases hmem

theorem wpAny_inv (hb : backB md ops = true) (I : Array Bool → Act → World → Prop)
    (hstep : ∀ listed a w, I listed a w → listed.size = ops.size → ∀ i, i < ops.size → listed.getD i true = false →
      (∀ o, ops[i]? = some o → ∀ e ∈ o.after, Region.binds md e = true → listed.getD e.on false = true) → wpOp P ops Q i (I (listed.setIfInBounds i true)) a w)
    (hend : ∀ listed a w, I listed a w → (∀ i, i < ops.size → listed.getD i false = true) → Q .normal a w) :
    ∀ (fuel : Nat) (listed : Array Bool) (a : Act) (w : World), listed.size = ops.size → unl listed ops.size ≤ fuel → I listed a w → wpAny P md ops Q fuel listed a w
  | 0, listed, a, w, hs, hl, hI => by
    have hz := unl_zero ops.size (by omega : unl listed ops.size = 0)
    refine ⟨?_, hend listed a w hI fun i hi => ?_⟩
    · cases hr : Region.ready md ops listed with
      | nil => rfl
      | cons x xs =>
        have hx : x ∈ Region.ready md ops listed := by rw [hr]; simp
        unfold Region.ready at hx
        obtain ⟨h1, h2⟩ := List.mem_filter.1 hx
        have := hz x (List.mem_range.1 h1)
        rw [this] at h2
        simp at h2
    · have := hz i hi
      have hsz : i < listed.size := by omega
      simp [hsz] at this ⊢
      exact this
  | fuel + 1, listed, a, w, hs, hl, hI => by
    refine ⟨fun h => hend listed a w hI (ready_nil hb hs h), fun i hi => ?_⟩
    have hi' := hi
    unfold Region.ready at hi'
    obtain ⟨h1, h2⟩ := List.mem_filter.1 hi'
    have hlt := List.mem_range.1 h1
    simp only [Bool.and_eq_true, Bool.not_eq_true'] at h2
    refine wpOp_mono (fun a' w' h' => ?_) (hstep listed a w hI hs i hlt h2.1 ?_)
    · have := unl_set h2.1 ops.size hlt
      exact wpAny_inv hb I hstep hend fuel _ a' w' (by simpa using hs) (by omega) h'
    · intro o ho e he hbd
      have h3 := h2.2
      rw [ho] at h3
      simp only [Option.map_some, Option.getD_some] at h3
      have := Array.all_eq_true_iff_forall_mem.1 h3 e he
      rw [hbd] at this
      simpa using this

/-- THE RULE. -/
theorem wp_region_inv {id : Nat} {a : Act} {w : World} (hm : P.follows .mixedOrders = true) (hb : backB .any ops = true) (I : Array Bool → Act → World → Prop)
    (h0 : I (Array.replicate ops.size false) a w.drew)
    (hstep : ∀ listed a w, I listed a w → listed.size = ops.size → ∀ i, i < ops.size → listed.getD i true = false →
      (∀ o, ops[i]? = some o → ∀ e ∈ o.after, Region.binds .any e = true → listed.getD e.on false = true) → wpOp P ops Q i (I (listed.setIfInBounds i true)) a w)
    (hend : ∀ listed a w, I listed a w → (∀ i, i < ops.size → listed.getD i false = true) → Q .normal a w) :
    (Code.region id ops true).wp P Q a w :=
  wp_region_any hm (wpAny_inv hb I hstep hend ops.size _ a _ (by simp) (unl_le _ _) h0)
end


/-! ### the same with the operations' results under a function 'r' -/
section
variable {P : Program} {ops : Array Oper} {Q : Exit → Act → World → Prop}

def upd (r : Nat → Option Value) (i : Nat) (v : Value) : Nat → Option Value := fun j => if j = i then some v else r j
theorem upd_same (r : Nat → Option Value) (i : Nat) (v : Value) : upd r i v i = some v := by simp [upd]
theorem upd_ne (r : Nat → Option Value) {i j : Nat} (v : Value) (h : j ≠ i) : upd r i v j = r j := by simp [upd, h]

/-- The frame behind some of the operations. -/
structure Fr (ops : Array Oper) (a0 : Act) (r : Nat → Option Value) (a : Act) : Prop where
  defers : a.defers = a0.defers
  size : a.tmps.size = a0.tmps.size
  ran : ∀ j o t v, ops[j]? = some o → o.dst = some t → r j = some v → t < a0.tmps.size → a.tmps[t]? = some v
  rest : ∀ t, (∀ j o, ops[j]? = some o → o.dst = some t → r j = none) → a.tmps[t]? = a0.tmps[t]?

/-- No slot is written twice. -/
def apartB (ops : Array Oper) : Bool :=
  (List.range ops.size).all fun i => (List.range ops.size).all fun j => decide (i = j) || match ops[i]?, ops[j]? with
    | some x, some y => match x.dst, y.dst with
      | some d, some e => decide (d ≠ e)
      | _, _ => true
    | _, _ => true

theorem apart_of (h : apartB ops = true) {i j : Nat} {x y : Oper} {d : Tmp} (hi : ops[i]? = some x) (hj : ops[j]? = some y) (hx : x.dst = some d) (hy : y.dst = some d) : i = j := by
  have hil : i < ops.size := (Array.getElem?_eq_some_iff.1 hi).1
  have hjl : j < ops.size := (Array.getElem?_eq_some_iff.1 hj).1
  have h1 := List.all_eq_true.1 (List.all_eq_true.1 h i (List.mem_range.2 hil)) j (List.mem_range.2 hjl)
  rw [hi, hj] at h1
  simp only [hx, hy] at h1
  simpa using h1

theorem Fr.start (ops : Array Oper) (a0 : Act) : Fr ops a0 (fun _ => none) a0 :=
  ⟨rfl, rfl, fun _ _ _ _ _ _ h => (by cases h), fun _ _ => rfl⟩

theorem Fr.put {a0 a : Act} {r : Nat → Option Value} (h : Fr ops a0 r a) (hap : apartB ops = true) {i : Nat} {o : Oper} (hi : ops[i]? = some o) (v : Value) : Fr ops a0 (upd r i v) (a.put o.dst v) := by
  obtain ⟨hd, hs, hr, hz⟩ := h
  cases hdst : o.dst with
  | none =>
    refine ⟨hd, hs, fun j x t u hj hx hu ht => ?_, fun t ht => hz t fun j x hj hx => ?_⟩
    · by_cases hji : j = i
      · subst hji
        rw [hi] at hj
        cases hj
        rw [hdst] at hx
        cases hx
      · rw [upd_ne _ _ hji] at hu
        exact hr j x t u hj hx hu ht
    · have := ht j x hj hx
      by_cases hji : j = i
      · subst hji
        rw [upd_same] at this
        cases this
      · rwa [upd_ne _ _ hji] at this
  | some d =>
    refine ⟨hd, by simp [Act.put, hs], fun j x t u hj hx hu ht => ?_, fun t ht => ?_⟩
    · by_cases hji : j = i
      · subst hji
        rw [hi] at hj
        cases hj
        rw [hdst] at hx
        cases hx
        rw [upd_same] at hu
        cases hu
        simp [Act.put, hs, ht]
      · rw [upd_ne _ _ hji] at hu
        have hne : d ≠ t := fun e => hji (apart_of hap hj hi hx (by rw [hdst, e]))
        simp only [Act.put]
        rw [Array.getElem?_setIfInBounds_ne hne]
        exact hr j x t u hj hx hu ht
    · have hne : d ≠ t := fun e => by
        have := ht i o hi (by rw [hdst, e])
        rw [upd_same] at this
        cases this
      simp only [Act.put]
      rw [Array.getElem?_setIfInBounds_ne hne]
      refine hz t fun j x hj hx => ?_
      have := ht j x hj hx
      by_cases hji : j = i
      · subst hji
        rw [upd_same] at this
        cases this
      · rwa [upd_ne _ _ hji] at this

/-- All results laid into the frame, in the order of the text. -/
def putAll : List Oper → List Value → Act → Act
  | o :: os, v :: vs, a => putAll os vs (a.put o.dst v)
  | _, _, a => a

theorem Act.ext_ {a b : Act} (hd : a.defers = b.defers) (ht : ∀ t : Nat, a.tmps[t]? = b.tmps[t]?) : a = b := by
  cases a; cases b
  simp only [Act.mk.injEq]
  exact ⟨Array.ext_getElem? ht, hd⟩

/-- 'putAll' of the first k. -/
theorem putAll_fr {a0 : Act} {r : Nat → Option Value} (hap : apartB ops = true) (l : List Oper) : ∀ (k : Nat) (q : Nat → Option Value) (b : Act), (∀ j, ops[k + j]? = l[j]?) → (∀ j, j < k → q j = r j) → (∀ j, k ≤ j → q j = none) →
    (∀ j, j < k + l.length → r j ≠ none) → Fr ops a0 q b → ∃ q', (∀ j, j < k + l.length → q' j = r j) ∧ (∀ j, k + l.length ≤ j → q' j = none) ∧ Fr ops a0 q' (putAll l ((List.range' k l.length).map fun i => (r i).getD undef) b) := by
  induction l with
  | nil => intro k q b _ h1 h2 _ hf; exact ⟨q, by simpa using h1, by simpa using h2, hf⟩
  | cons o l ih =>
    intro k q b ho h1 h2 hr hf
    have hk : ops[k]? = some o := by simpa using ho 0
    obtain ⟨v, hv⟩ : ∃ v, r k = some v := by
      cases h : r k with
      | none => exact absurd h (hr k (by simp))
      | some v => exact ⟨v, rfl⟩
    have hf' := hf.put hap hk v
    obtain ⟨q', g1, g2, g3⟩ := ih (k + 1) (upd q k v) (b.put o.dst v) (fun j => by have := ho (j + 1); simpa [Nat.add_assoc, Nat.add_comm 1 j] using this)
      (fun j hj => by
        by_cases hjk : j = k
        · subst hjk; rw [upd_same, hv]
        · rw [upd_ne _ _ hjk]; exact h1 j (by omega))
      (fun j hj => by rw [upd_ne _ _ (by omega)]; exact h2 j (by omega)) (fun j hj => hr j (by simp; omega)) hf'
    refine ⟨q', fun j hj => g1 j (by simp at hj; omega), fun j hj => g2 j (by simp at hj; omega), ?_⟩
    simp only [List.length_cons, List.range'_succ, List.map_cons, putAll, hv, Option.getD_some]
    exact g3

theorem Fr.unique {a0 a b : Act} {r : Nat → Option Value} (ha : Fr ops a0 r a) (hb : Fr ops a0 r b) : a = b := by
  refine Act.ext_ (ha.defers.trans hb.defers.symm) fun t => ?_
  by_cases h : ∃ j o, ops[j]? = some o ∧ o.dst = some t ∧ r j ≠ none
  · obtain ⟨j, o, hj, ho, hr⟩ := h
    obtain ⟨v, hv⟩ : ∃ v, r j = some v := by
      cases h : r j with
      | none => exact absurd h hr
      | some v => exact ⟨v, rfl⟩
    by_cases ht : t < a0.tmps.size
    · rw [ha.ran j o t v hj ho hv ht, hb.ran j o t v hj ho hv ht]
    · rw [Array.getElem?_eq_none (by rw [ha.size]; omega), Array.getElem?_eq_none (by rw [hb.size]; omega)]
  · have hn : ∀ j o, ops[j]? = some o → o.dst = some t → r j = none := fun j o hj ho => by
      cases hr : r j with
      | none => rfl
      | some v => exact absurd ⟨j, o, hj, ho, by rw [hr]; simp⟩ h
    rw [ha.rest t hn, hb.rest t hn]

/-- THE RULE: 'G i v': what may be said of the result v of operation i; 'W r w': of the world, by what has run. -/
theorem wp_region_vals {id : Nat} {l : List Oper} {a0 : Act} {w : World} (G : Nat → Value → Prop) (W : (Nat → Option Value) → World → Prop)
    (hm : P.follows .mixedOrders = true) (hb : backB .any l.toArray = true) (hap : apartB l.toArray = true)
    (h0 : W (fun _ => none) w.drew)
    (hstep : ∀ r a w, Fr l.toArray a0 r a → (∀ j v, r j = some v → G j v) → W r w → ∀ i o, l[i]? = some o → r i = none → (∀ e ∈ o.after, Region.binds .any e = true → r e.on ≠ none) →
      ∀ K : Act → World → Prop, (∀ v w', G i v → W (upd r i v) w' → K (a.put o.dst v) w') → wpOp P l.toArray Q i K a w)
    (hend : ∀ r w, (∀ j v, r j = some v → G j v) → W r w → (∀ i, i < l.length → r i ≠ none) → Q .normal (putAll l ((List.range l.length).map fun i => (r i).getD undef) a0) w) :
    (Code.region id l.toArray true).wp P Q a0 w := by
  refine wp_region_inv hm hb (fun listed a w => ∃ r : Nat → Option Value, (∀ i, i < l.length → (listed.getD i false = true ↔ r i ≠ none)) ∧ (∀ i, l.length ≤ i → r i = none) ∧ Fr l.toArray a0 r a ∧ (∀ j v, r j = some v → G j v) ∧ W r w) ?_ ?_ ?_
  · refine ⟨fun _ => none, fun i hi => ?_, fun _ _ => rfl, Fr.start _ _, fun _ _ h => (by cases h), h0⟩
    simp [hi]
  · rintro listed a w ⟨r, hl, hn, hf, hg, hw⟩ hs i hi hli hdeps
    have hil : i < l.length := by simpa using hi
    have ho : l[i]? = some l[i] := List.getElem?_eq_getElem hil
    have ho' : l.toArray[i]? = some l[i] := by simp
    have hri : r i = none := by
      cases h : r i with
      | none => rfl
      | some v =>
        have := (hl i hil).2 (by rw [h]; simp)
        have hsz : i < listed.size := by omega
        simp [hsz] at this hli
        rw [this] at hli
        cases hli
    refine hstep r a w hf hg hw i _ ho hri (fun e he hbd => ?_) _ fun v w' hgv hw' => ?_
    · have h1 := hdeps _ ho' e he hbd
      refine (hl e.on ?_).1 h1
      rcases Nat.lt_or_ge e.on listed.size with h' | h'
      · rw [hs] at h'; simpa using h'
      · simp [Array.getElem?_eq_none h'] at h1
    · refine ⟨upd r i v, fun j hj => ?_, fun j hj => ?_, hf.put hap ho' v, fun j u hu => ?_, hw'⟩
      · by_cases hji : j = i
        · subst hji
          have hsz : j < listed.size := by omega
          simp [upd_same, hsz]
        · rw [upd_ne _ _ hji, ← hl j hj]
          simp [Array.getElem?_setIfInBounds_ne (fun e => hji e.symm)]
      · rw [upd_ne _ _ (by omega)]; exact hn j hj
      · by_cases hji : j = i
        · subst hji
          rw [upd_same] at hu
          cases hu
          exact hgv
        · rw [upd_ne _ _ hji] at hu
          exact hg j u hu
  · rintro listed a w ⟨r, hl, hn, hf, hg, hw⟩ hall
    have hr : ∀ i, i < l.length → r i ≠ none := fun i hi => (hl i hi).1 (hall i (by rw [List.size_toArray]; exact hi))
    obtain ⟨q', g1, g2, g3⟩ := putAll_fr (r := r) hap l 0 (fun _ => none) a0 (fun j => by simp) (fun j hj => by omega) (fun _ _ => rfl) (fun j hj => hr j (by simpa using hj)) (Fr.start _ _)
    have hq : q' = r := funext fun j => by
      by_cases hj : j < l.length
      · exact g1 j (by simpa using hj)
      · rw [g2 j (by simp; omega), hn j (by omega)]
    rw [hq] at g3
    have := hend r w hg hw hr
    rw [List.range_eq_range'] at this
    rw [hf.unique g3]
    exact this

theorem wpOp_of {l : List Oper} {i : Nat} {o : Oper} {a : Act} {w : World} {K : Act → World → Prop} (ho : l[i]? = some o) (hg : o.guard = none) (h : o.wp P a w K Q) : wpOp P l.toArray Q i K a w := by
  unfold wpOp
  have : l.toArray[i]? = some o := by simpa using ho
  rw [this]
  simp only [Region.wanted, hg, if_true]
  exact .inl h

theorem Fr.eval {a0 a : Act} {r : Nat → Option Value} {l : List Oper} {G : Nat → Value → Prop} (h : Fr l.toArray a0 r a) (hg : ∀ j v, r j = some v → G j v) {j : Nat} {o : Oper} {t : Tmp} (hr : r j ≠ none) (ho : l[j]? = some o) (ht : o.dst = some t)
    (hs : t < a0.tmps.size) : ∃ v, a.tmps.getD t undef = v ∧ G j v ∧ r j = some v := by
  obtain ⟨v, hv⟩ : ∃ v, r j = some v := by
    cases h : r j with
    | none => exact absurd h hr
    | some v => exact ⟨v, rfl⟩
  refine ⟨v, ?_, hg j v hv, hv⟩
  have := h.ran j o t v (by simpa using ho) ht hv hs
  simp [this]

/-- A statement for each operation of a list. -/
def EachOp (S : Nat → Oper → Prop) : Nat → List Oper → Prop
  | _, [] => True
  | k, o :: l => S k o ∧ EachOp S (k + 1) l
theorem EachOp.at_ {S : Nat → Oper → Prop} : ∀ (l : List Oper) (k : Nat), EachOp S k l → ∀ i o, l[i]? = some o → S (k + i) o
  | [], _, _, _, _, h => by simp at h
  | x :: l, k, h, 0, o, ho => by
    simp at ho
    subst ho
    exact h.1
  | x :: l, k, h, i + 1, o, ho => by
    have := EachOp.at_ l (k + 1) h.2 i o (by simpa using ho)
    rwa [show k + 1 + i = k + (i + 1) by omega] at this

/-- THE RULE, an obligation for each operation. -/
theorem wp_region_each {id : Nat} {l : List Oper} {a0 : Act} {w : World} (G : Nat → Value → Prop) (W : (Nat → Option Value) → World → Prop)
    (hm : P.follows .mixedOrders = true) (hb : backB .any l.toArray = true) (hap : apartB l.toArray = true)
    (h0 : W (fun _ => none) w.drew)
    (hstep : EachOp (fun i o => ∀ r a w, Fr l.toArray a0 r a → (∀ j v, r j = some v → G j v) → W r w → r i = none → (∀ e ∈ o.after, Region.binds .any e = true → r e.on ≠ none) →
      ∀ K : Act → World → Prop, (∀ v w', G i v → W (upd r i v) w' → K (a.put o.dst v) w') → wpOp P l.toArray Q i K a w) 0 l)
    (hend : ∀ r w, (∀ j v, r j = some v → G j v) → W r w → (∀ i, i < l.length → r i ≠ none) → Q .normal (putAll l ((List.range l.length).map fun i => (r i).getD undef) a0) w) :
    (Code.region id l.toArray true).wp P Q a0 w :=
  wp_region_vals G W hm hb hap h0 (fun r a w hf hg hW i o ho hr hd K hK => by
    have := EachOp.at_ l 0 hstep i o ho
    rw [Nat.zero_add] at this
    exact this r a w hf hg hW hr hd K hK) hend

def depB (l : List Oper) (es : Array Edge) (size : Nat) (j : Nat) (t : Tmp) : Bool :=
  es.any (fun e => Region.binds .any e && decide (e.on = j)) && (match l[j]? with | some x => decide (x.dst = some t) | none => false) && decide (t < size)
/-- The slot of an operation that must have run. -/
theorem Fr.dep {a0 a : Act} {r : Nat → Option Value} {l : List Oper} {es : Array Edge} {G : Nat → Value → Prop} (h : Fr l.toArray a0 r a) (hg : ∀ j v, r j = some v → G j v) (hd : ∀ e ∈ es, Region.binds .any e = true → r e.on ≠ none)
    (j : Nat) (t : Tmp) (hb : depB l es a0.tmps.size j t = true) : ∃ v, a.tmps.getD t undef = v ∧ G j v ∧ r j = some v := by
  simp only [depB, Bool.and_eq_true, decide_eq_true_eq] at hb
  obtain ⟨⟨h1, h2⟩, h3⟩ := hb
  obtain ⟨e, he, h4⟩ := Array.any_eq_true'.1 h1
  simp only [Bool.and_eq_true, decide_eq_true_eq] at h4
  have hr := hd e he h4.1
  rw [h4.2] at hr
  cases hl : l[j]? with
  | none => rw [hl] at h2; cases h2
  | some x =>
    rw [hl] at h2
    exact h.eval hg hr hl (by simpa using h2) h3

theorem Fr.depE {a0 a : Act} {r : Nat → Option Value} {l : List Oper} {es : Array Edge} {G : Nat → Value → Prop} {C : Prop} (h : Fr l.toArray a0 r a) (hg : ∀ j v, r j = some v → G j v) (hd : ∀ e ∈ es, Region.binds .any e = true → r e.on ≠ none)
    (j : Nat) (t : Tmp) (hb : depB l es a0.tmps.size j t = true) (k : ∀ v, a.tmps.getD t undef = v → G j v → r j = some v → C) : C := by
  obtain ⟨v, h1, h2, h3⟩ := h.dep hg hd j t hb
  exact k v h1 h2 h3

theorem get_of_getD {a : Act} {t : Tmp} {v : Value} (h : a.tmps.getD t undef = v) : a.tmps[t]?.getD undef = v := by
  rw [← h]
  simp

/-- A slot that no operation of the region writes. -/
def freeB (l : List Oper) (t : Tmp) : Bool := l.all fun o => match o.dst with | some d => decide (d ≠ t) | none => true
theorem Fr.evalFree {a0 a : Act} {r : Nat → Option Value} {l : List Oper} (h : Fr l.toArray a0 r a) {t : Tmp} (hf : freeB l t = true) : a.tmps.getD t undef = a0.tmps.getD t undef := by
  have := h.rest t fun j o hj ho => by
    have hm : o ∈ l := List.mem_of_getElem? (by simpa using hj)
    have := List.all_eq_true.1 hf o hm
    rw [ho] at this
    simp at this
  simp [this]
end
end Go.Kq
