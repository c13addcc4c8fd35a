/- A rule for a region that draws its order: an invariant over the set of operations that have run; no program in sight. · Guarded operations in a region that draws its order: run or passed over. No program in sight. · Values that a region draws and holds, with facts of the world: invariants for wp_region_each. No program in sight. · Boxes that a region makes and fills in whatever order: an invariant for wp_region_each. No program in sight. -/
import Derived.Orders
import Derived.WalkKit
import Derived.Test.YtlieijnhaolnhaaGreatXLibMakeM
namespace Go.Kq
section
variable {P : Program} {ops : Array Oper} {Q : Exit → Act → World → Prop} {md : Region.Mode}

/-- Every edge that binds leads back to an earlier operation. -/
def backB (md : Region.Mode) (ops : Array Oper) : Bool :=
  (List.range ops.size).all fun i => match ops[i]? with
    | some o => o.after.all fun e => !Region.binds md e || decide (e.on < i)
    | none => true

def unl (listed : Array Bool) : Nat → Nat
  | 0 => 0
  | n + 1 => unl listed n + (if listed.getD n true then 0 else 1)

theorem unl_set_ge {listed : Array Bool} {i : Nat} : ∀ n, n ≤ i → unl (listed.setIfInBounds i true) n = unl listed n
  | 0, _ => rfl
  | n + 1, h => by
    have hne : i ≠ n := by omega
    simp only [unl]
    rw [unl_set_ge n (by omega)]
    simp [Array.getElem?_setIfInBounds_ne hne]

theorem unl_set {listed : Array Bool} {i : Nat} (h : listed.getD i true = false) : ∀ n, i < n → unl (listed.setIfInBounds i true) n + 1 = unl listed n
  | 0, h => by omega
  | n + 1, hn => by
    simp only [unl]
    by_cases hin : i = n
    · subst hin
      rw [unl_set_ge i (Nat.le_refl _)]
      have hlt : i < listed.size := by
        rcases Nat.lt_or_ge i listed.size with h' | h'
        · exact h'
        · simp [Array.getElem?_eq_none h'] at h
      simp [hlt] at h
      simp [hlt, h]
    · have := unl_set h n (by omega)
      have e : (listed.setIfInBounds i true).getD n true = listed.getD n true := by
        simp [Array.getElem?_setIfInBounds_ne hin]
      rw [e]
      omega

theorem unl_zero {listed : Array Bool} : ∀ n, unl listed n = 0 → ∀ i, i < n → listed.getD i true = true
  | 0, _, i, h => by omega
  | n + 1, h, i, hi => by
    simp only [unl] at h
    by_cases hin : i = n
    · subst hin
      cases hb : listed.getD i true with
      | true => rfl
      | false => rw [hb] at h; simp at h
    · exact unl_zero n (by omega) i (by omega)

theorem unl_le (listed : Array Bool) : ∀ n, unl listed n ≤ n
  | 0 => Nat.le_refl _
  | n + 1 => by
    simp only [unl]
    have := unl_le listed n
    split <;> omega

/-- Where all edges lead back, something may come up as long as something is left. -/
theorem ready_nil {listed : Array Bool} (hb : backB md ops = true) (hs : listed.size = ops.size) (h : Region.ready md ops listed = []) :
    ∀ i, i < ops.size → listed.getD i false = true := by
  intro i
  induction i using Nat.strongRecOn with
  | _ i ih =>
    intro hi
    cases hl : listed.getD i false with
    | true => rfl
    | false =>
      exfalso
      have hmem : i ∈ Region.ready md ops listed := by
        unfold Region.ready
        refine List.mem_filter.2 ⟨List.mem_range.2 hi, ?_⟩
        have hsz : i < listed.size := by omega
        have h1 : listed.getD i true = false := by simp [hsz] at hl ⊢; exact hl
        have ho : ops[i]? = some ops[i] := Array.getElem?_eq_getElem hi
        rw [h1, ho]
        simp only [Bool.not_false, Bool.true_and, Option.map_some, Option.getD_some]
        refine Array.all_eq_true_iff_forall_mem.2 fun e he => ?_
        have hback := List.all_eq_true.1 hb i (List.mem_range.2 hi)
        rw [ho] at hback
        have := Array.all_eq_true_iff_forall_mem.1 hback e he
        cases hbd : Region.binds md e with
        | false => rfl
        | true =>
          rw [hbd] at this
          simp at this
          simp [ih e.on this (by omega)]
      rw [h] at hmem
      cases hmem

theorem wpAny_inv (hb : backB md ops = true) (I : Array Bool → Act → World → Prop)
    (hstep : ∀ listed a w, I listed a w → listed.size = ops.size → ∀ i, i < ops.size → listed.getD i true = false →
      (∀ o, ops[i]? = some o → ∀ e ∈ o.after, Region.binds md e = true → listed.getD e.on false = true) → wpOp P ops Q i (I (listed.setIfInBounds i true)) a w)
    (hend : ∀ listed a w, I listed a w → (∀ i, i < ops.size → listed.getD i false = true) → Q .normal a w) :
    ∀ (fuel : Nat) (listed : Array Bool) (a : Act) (w : World), listed.size = ops.size → unl listed ops.size ≤ fuel → I listed a w → wpAny P md ops Q fuel listed a w
  | 0, listed, a, w, hs, hl, hI => by
    have hz := unl_zero ops.size (by omega : unl listed ops.size = 0)
    refine ⟨?_, hend listed a w hI fun i hi => ?_⟩
    · cases hr : Region.ready md ops listed with
      | nil => rfl
      | cons x xs =>
        have hx : x ∈ Region.ready md ops listed := by rw [hr]; simp
        unfold Region.ready at hx
        obtain ⟨h1, h2⟩ := List.mem_filter.1 hx
        have := hz x (List.mem_range.1 h1)
        rw [this] at h2
        simp at h2
    · have := hz i hi
      have hsz : i < listed.size := by omega
      simp [hsz] at this ⊢
      exact this
  | fuel + 1, listed, a, w, hs, hl, hI => by
    refine ⟨fun h => hend listed a w hI (ready_nil hb hs h), fun i hi => ?_⟩
    have hi' := hi
    unfold Region.ready at hi'
    obtain ⟨h1, h2⟩ := List.mem_filter.1 hi'
    have hlt := List.mem_range.1 h1
    simp only [Bool.and_eq_true, Bool.not_eq_true'] at h2
    refine wpOp_mono (fun a' w' h' => ?_) (hstep listed a w hI hs i hlt h2.1 ?_)
    · have := unl_set h2.1 ops.size hlt
      exact wpAny_inv hb I hstep hend fuel _ a' w' (by simpa using hs) (by omega) h'
    · intro o ho e he hbd
      have h3 := h2.2
      rw [ho] at h3
      simp only [Option.map_some, Option.getD_some] at h3
      have := Array.all_eq_true_iff_forall_mem.1 h3 e he
      rw [hbd] at this
      simpa using this

/-- THE RULE. -/
theorem wp_region_inv {id : Nat} {a : Act} {w : World} (hm : P.follows .mixedOrders = true) (hb : backB .any ops = true) (I : Array Bool → Act → World → Prop)
    (h0 : I (Array.replicate ops.size false) a w.drew)
    (hstep : ∀ listed a w, I listed a w → listed.size = ops.size → ∀ i, i < ops.size → listed.getD i true = false →
      (∀ o, ops[i]? = some o → ∀ e ∈ o.after, Region.binds .any e = true → listed.getD e.on false = true) → wpOp P ops Q i (I (listed.setIfInBounds i true)) a w)
    (hend : ∀ listed a w, I listed a w → (∀ i, i < ops.size → listed.getD i false = true) → Q .normal a w) :
    (Code.region id ops true).wp P Q a w :=
  wp_region_any hm (wpAny_inv hb I hstep hend ops.size _ a _ (by simp) (unl_le _ _) h0)
end


/-! ### the same with the operations' results under a function 'r' -/
section
variable {P : Program} {ops : Array Oper} {Q : Exit → Act → World → Prop}

def upd (r : Nat → Option Value) (i : Nat) (v : Value) : Nat → Option Value := fun j => if j = i then some v else r j
theorem upd_same (r : Nat → Option Value) (i : Nat) (v : Value) : upd r i v i = some v := by simp [upd]
theorem upd_ne (r : Nat → Option Value) {i j : Nat} (v : Value) (h : j ≠ i) : upd r i v j = r j := by simp [upd, h]

/-- The frame behind some of the operations. -/
structure Fr (ops : Array Oper) (a0 : Act) (r : Nat → Option Value) (a : Act) : Prop where
  defers : a.defers = a0.defers
  size : a.tmps.size = a0.tmps.size
  ran : ∀ j o t v, ops[j]? = some o → o.dst = some t → r j = some v → t < a0.tmps.size → a.tmps[t]? = some v
  rest : ∀ t, (∀ j o, ops[j]? = some o → o.dst = some t → r j = none) → a.tmps[t]? = a0.tmps[t]?

/-- No slot is written twice. -/
def apartB (ops : Array Oper) : Bool :=
  (List.range ops.size).all fun i => (List.range ops.size).all fun j => decide (i = j) || match ops[i]?, ops[j]? with
    | some x, some y => match x.dst, y.dst with
      | some d, some e => decide (d ≠ e)
      | _, _ => true
    | _, _ => true

theorem apart_of (h : apartB ops = true) {i j : Nat} {x y : Oper} {d : Tmp} (hi : ops[i]? = some x) (hj : ops[j]? = some y) (hx : x.dst = some d) (hy : y.dst = some d) : i = j := by
  have hil : i < ops.size := (Array.getElem?_eq_some_iff.1 hi).1
  have hjl : j < ops.size := (Array.getElem?_eq_some_iff.1 hj).1
  have h1 := List.all_eq_true.1 (List.all_eq_true.1 h i (List.mem_range.2 hil)) j (List.mem_range.2 hjl)
  rw [hi, hj] at h1
  simp only [hx, hy] at h1
  simpa using h1

theorem Fr.start (ops : Array Oper) (a0 : Act) : Fr ops a0 (fun _ => none) a0 :=
  ⟨rfl, rfl, fun _ _ _ _ _ _ h => (by cases h), fun _ _ => rfl⟩

theorem Fr.put {a0 a : Act} {r : Nat → Option Value} (h : Fr ops a0 r a) (hap : apartB ops = true) {i : Nat} {o : Oper} (hi : ops[i]? = some o) (v : Value) : Fr ops a0 (upd r i v) (a.put o.dst v) := by
  obtain ⟨hd, hs, hr, hz⟩ := h
  cases hdst : o.dst with
  | none =>
    refine ⟨hd, hs, fun j x t u hj hx hu ht => ?_, fun t ht => hz t fun j x hj hx => ?_⟩
    · by_cases hji : j = i
      · subst hji
        rw [hi] at hj
        cases hj
        rw [hdst] at hx
        cases hx
      · rw [upd_ne _ _ hji] at hu
        exact hr j x t u hj hx hu ht
    · have := ht j x hj hx
      by_cases hji : j = i
      · subst hji
        rw [upd_same] at this
        cases this
      · rwa [upd_ne _ _ hji] at this
  | some d =>
    refine ⟨hd, by simp [Act.put, hs], fun j x t u hj hx hu ht => ?_, fun t ht => ?_⟩
    · by_cases hji : j = i
      · subst hji
        rw [hi] at hj
        cases hj
        rw [hdst] at hx
        cases hx
        rw [upd_same] at hu
        cases hu
        simp [Act.put, hs, ht]
      · rw [upd_ne _ _ hji] at hu
        have hne : d ≠ t := fun e => hji (apart_of hap hj hi hx (by rw [hdst, e]))
        simp only [Act.put]
        rw [Array.getElem?_setIfInBounds_ne hne]
        exact hr j x t u hj hx hu ht
    · have hne : d ≠ t := fun e => by
        have := ht i o hi (by rw [hdst, e])
        rw [upd_same] at this
        cases this
      simp only [Act.put]
      rw [Array.getElem?_setIfInBounds_ne hne]
      refine hz t fun j x hj hx => ?_
      have := ht j x hj hx
      by_cases hji : j = i
      · subst hji
        rw [upd_same] at this
        cases this
      · rwa [upd_ne _ _ hji] at this

/-- All results laid into the frame, in the order of the text. -/
def putAll : List Oper → List Value → Act → Act
  | o :: os, v :: vs, a => putAll os vs (a.put o.dst v)
  | _, _, a => a

theorem Act.ext_ {a b : Act} (hd : a.defers = b.defers) (ht : ∀ t : Nat, a.tmps[t]? = b.tmps[t]?) : a = b := by
  cases a; cases b
  simp only [Act.mk.injEq]
  exact ⟨Array.ext_getElem? ht, hd⟩

/-- 'putAll' of the first k. -/
theorem putAll_fr {a0 : Act} {r : Nat → Option Value} (hap : apartB ops = true) (l : List Oper) : ∀ (k : Nat) (q : Nat → Option Value) (b : Act), (∀ j, ops[k + j]? = l[j]?) → (∀ j, j < k → q j = r j) → (∀ j, k ≤ j → q j = none) →
    (∀ j, j < k + l.length → r j ≠ none) → Fr ops a0 q b → ∃ q', (∀ j, j < k + l.length → q' j = r j) ∧ (∀ j, k + l.length ≤ j → q' j = none) ∧ Fr ops a0 q' (putAll l ((List.range' k l.length).map fun i => (r i).getD undef) b) := by
  induction l with
  | nil => intro k q b _ h1 h2 _ hf; exact ⟨q, by simpa using h1, by simpa using h2, hf⟩
  | cons o l ih =>
    intro k q b ho h1 h2 hr hf
    have hk : ops[k]? = some o := by simpa using ho 0
    obtain ⟨v, hv⟩ : ∃ v, r k = some v := by
      cases h : r k with
      | none => exact absurd h (hr k (by simp))
      | some v => exact ⟨v, rfl⟩
    have hf' := hf.put hap hk v
    obtain ⟨q', g1, g2, g3⟩ := ih (k + 1) (upd q k v) (b.put o.dst v) (fun j => by have := ho (j + 1); simpa [Nat.add_assoc, Nat.add_comm 1 j] using this)
      (fun j hj => by
        by_cases hjk : j = k
        · subst hjk; rw [upd_same, hv]
        · rw [upd_ne _ _ hjk]; exact h1 j (by omega))
      (fun j hj => by rw [upd_ne _ _ (by omega)]; exact h2 j (by omega)) (fun j hj => hr j (by simp; omega)) hf'
    refine ⟨q', fun j hj => g1 j (by simp at hj; omega), fun j hj => g2 j (by simp at hj; omega), ?_⟩
    simp only [List.length_cons, List.range'_succ, List.map_cons, putAll, hv, Option.getD_some]
    exact g3

theorem Fr.unique {a0 a b : Act} {r : Nat → Option Value} (ha : Fr ops a0 r a) (hb : Fr ops a0 r b) : a = b := by
  refine Act.ext_ (ha.defers.trans hb.defers.symm) fun t => ?_
  by_cases h : ∃ j o, ops[j]? = some o ∧ o.dst = some t ∧ r j ≠ none
  · obtain ⟨j, o, hj, ho, hr⟩ := h
    obtain ⟨v, hv⟩ : ∃ v, r j = some v := by
      cases h : r j with
      | none => exact absurd h hr
      | some v => exact ⟨v, rfl⟩
    by_cases ht : t < a0.tmps.size
    · rw [ha.ran j o t v hj ho hv ht, hb.ran j o t v hj ho hv ht]
    · rw [Array.getElem?_eq_none (by rw [ha.size]; omega), Array.getElem?_eq_none (by rw [hb.size]; omega)]
  · have hn : ∀ j o, ops[j]? = some o → o.dst = some t → r j = none := fun j o hj ho => by
      cases hr : r j with
      | none => rfl
      | some v => exact absurd ⟨j, o, hj, ho, by rw [hr]; simp⟩ h
    rw [ha.rest t hn, hb.rest t hn]

/-- THE RULE: 'G i v': what may be said of the result v of operation i; 'W r w': of the world, by what has run. -/
theorem wp_region_vals {id : Nat} {l : List Oper} {a0 : Act} {w : World} (G : Nat → Value → Prop) (W : (Nat → Option Value) → World → Prop)
    (hm : P.follows .mixedOrders = true) (hb : backB .any l.toArray = true) (hap : apartB l.toArray = true)
    (h0 : W (fun _ => none) w.drew)
    (hstep : ∀ r a w, Fr l.toArray a0 r a → (∀ j v, r j = some v → G j v) → W r w → ∀ i o, l[i]? = some o → r i = none → (∀ e ∈ o.after, Region.binds .any e = true → r e.on ≠ none) →
      ∀ K : Act → World → Prop, (∀ v w', G i v → W (upd r i v) w' → K (a.put o.dst v) w') → wpOp P l.toArray Q i K a w)
    (hend : ∀ r w, (∀ j v, r j = some v → G j v) → W r w → (∀ i, i < l.length → r i ≠ none) → Q .normal (putAll l ((List.range l.length).map fun i => (r i).getD undef) a0) w) :
    (Code.region id l.toArray true).wp P Q a0 w := by
  refine wp_region_inv hm hb (fun listed a w => ∃ r : Nat → Option Value, (∀ i, i < l.length → (listed.getD i false = true ↔ r i ≠ none)) ∧ (∀ i, l.length ≤ i → r i = none) ∧ Fr l.toArray a0 r a ∧ (∀ j v, r j = some v → G j v) ∧ W r w) ?_ ?_ ?_
  · refine ⟨fun _ => none, fun i hi => ?_, fun _ _ => rfl, Fr.start _ _, fun _ _ h => (by cases h), h0⟩
    simp [hi]
  · rintro listed a w ⟨r, hl, hn, hf, hg, hw⟩ hs i hi hli hdeps
    have hil : i < l.length := by simpa using hi
    have ho : l[i]? = some l[i] := List.getElem?_eq_getElem hil
    have ho' : l.toArray[i]? = some l[i] := by simp
    have hri : r i = none := by
      cases h : r i with
      | none => rfl
      | some v =>
        have := (hl i hil).2 (by rw [h]; simp)
        have hsz : i < listed.size := by omega
        simp [hsz] at this hli
        rw [this] at hli
        cases hli
    refine hstep r a w hf hg hw i _ ho hri (fun e he hbd => ?_) _ fun v w' hgv hw' => ?_
    · have h1 := hdeps _ ho' e he hbd
      refine (hl e.on ?_).1 h1
      rcases Nat.lt_or_ge e.on listed.size with h' | h'
      · rw [hs] at h'; simpa using h'
      · simp [Array.getElem?_eq_none h'] at h1
    · refine ⟨upd r i v, fun j hj => ?_, fun j hj => ?_, hf.put hap ho' v, fun j u hu => ?_, hw'⟩
      · by_cases hji : j = i
        · subst hji
          have hsz : j < listed.size := by omega
          simp [upd_same, hsz]
        · rw [upd_ne _ _ hji, ← hl j hj]
          simp [Array.getElem?_setIfInBounds_ne (fun e => hji e.symm)]
      · rw [upd_ne _ _ (by omega)]; exact hn j hj
      · by_cases hji : j = i
        · subst hji
          rw [upd_same] at hu
          cases hu
          exact hgv
        · rw [upd_ne _ _ hji] at hu
          exact hg j u hu
  · rintro listed a w ⟨r, hl, hn, hf, hg, hw⟩ hall
    have hr : ∀ i, i < l.length → r i ≠ none := fun i hi => (hl i hi).1 (hall i (by rw [List.size_toArray]; exact hi))
    obtain ⟨q', g1, g2, g3⟩ := putAll_fr (r := r) hap l 0 (fun _ => none) a0 (fun j => by simp) (fun j hj => by omega) (fun _ _ => rfl) (fun j hj => hr j (by simpa using hj)) (Fr.start _ _)
    have hq : q' = r := funext fun j => by
      by_cases hj : j < l.length
      · exact g1 j (by simpa using hj)
      · rw [g2 j (by simp; omega), hn j (by omega)]
    rw [hq] at g3
    have := hend r w hg hw hr
    rw [List.range_eq_range'] at this
    rw [hf.unique g3]
    exact this

theorem wpOp_of {l : List Oper} {i : Nat} {o : Oper} {a : Act} {w : World} {K : Act → World → Prop} (ho : l[i]? = some o) (hg : o.guard = none) (h : o.wp P a w K Q) : wpOp P l.toArray Q i K a w := by
  unfold wpOp
  have : l.toArray[i]? = some o := by simpa using ho
  rw [this]
  simp only [Region.wanted, hg, if_true]
  exact .inl h

theorem Fr.eval {a0 a : Act} {r : Nat → Option Value} {l : List Oper} {G : Nat → Value → Prop} (h : Fr l.toArray a0 r a) (hg : ∀ j v, r j = some v → G j v) {j : Nat} {o : Oper} {t : Tmp} (hr : r j ≠ none) (ho : l[j]? = some o) (ht : o.dst = some t)
    (hs : t < a0.tmps.size) : ∃ v, a.tmps.getD t undef = v ∧ G j v ∧ r j = some v := by
  obtain ⟨v, hv⟩ : ∃ v, r j = some v := by
    cases h : r j with
    | none => exact absurd h hr
    | some v => exact ⟨v, rfl⟩
  refine ⟨v, ?_, hg j v hv, hv⟩
  have := h.ran j o t v (by simpa using ho) ht hv hs
  simp [this]

/-- A statement for each operation of a list. -/
def EachOp (S : Nat → Oper → Prop) : Nat → List Oper → Prop
  | _, [] => True
  | k, o :: l => S k o ∧ EachOp S (k + 1) l
theorem EachOp.at_ {S : Nat → Oper → Prop} : ∀ (l : List Oper) (k : Nat), EachOp S k l → ∀ i o, l[i]? = some o → S (k + i) o
  | [], _, _, _, _, h => by simp at h
  | x :: l, k, h, 0, o, ho => by
    simp at ho
    subst ho
    exact h.1
  | x :: l, k, h, i + 1, o, ho => by
    have := EachOp.at_ l (k + 1) h.2 i o (by simpa using ho)
    rwa [show k + 1 + i = k + (i + 1) by omega] at this

/-- THE RULE, an obligation for each operation. -/
theorem wp_region_each {id : Nat} {l : List Oper} {a0 : Act} {w : World} (G : Nat → Value → Prop) (W : (Nat → Option Value) → World → Prop)
    (hm : P.follows .mixedOrders = true) (hb : backB .any l.toArray = true) (hap : apartB l.toArray = true)
    (h0 : W (fun _ => none) w.drew)
    (hstep : EachOp (fun i o => ∀ r a w, Fr l.toArray a0 r a → (∀ j v, r j = some v → G j v) → W r w → r i = none → (∀ e ∈ o.after, Region.binds .any e = true → r e.on ≠ none) →
      ∀ K : Act → World → Prop, (∀ v w', G i v → W (upd r i v) w' → K (a.put o.dst v) w') → wpOp P l.toArray Q i K a w) 0 l)
    (hend : ∀ r w, (∀ j v, r j = some v → G j v) → W r w → (∀ i, i < l.length → r i ≠ none) → Q .normal (putAll l ((List.range l.length).map fun i => (r i).getD undef) a0) w) :
    (Code.region id l.toArray true).wp P Q a0 w :=
  wp_region_vals G W hm hb hap h0 (fun r a w hf hg hW i o ho hr hd K hK => by
    have := EachOp.at_ l 0 hstep i o ho
    rw [Nat.zero_add] at this
    exact this r a w hf hg hW hr hd K hK) hend

def depB (l : List Oper) (es : Array Edge) (size : Nat) (j : Nat) (t : Tmp) : Bool :=
  es.any (fun e => Region.binds .any e && decide (e.on = j)) && (match l[j]? with | some x => decide (x.dst = some t) | none => false) && decide (t < size)
/-- The slot of an operation that must have run. -/
theorem Fr.dep {a0 a : Act} {r : Nat → Option Value} {l : List Oper} {es : Array Edge} {G : Nat → Value → Prop} (h : Fr l.toArray a0 r a) (hg : ∀ j v, r j = some v → G j v) (hd : ∀ e ∈ es, Region.binds .any e = true → r e.on ≠ none)
    (j : Nat) (t : Tmp) (hb : depB l es a0.tmps.size j t = true) : ∃ v, a.tmps.getD t undef = v ∧ G j v ∧ r j = some v := by
  simp only [depB, Bool.and_eq_true, decide_eq_true_eq] at hb
  obtain ⟨⟨h1, h2⟩, h3⟩ := hb
  obtain ⟨e, he, h4⟩ := Array.any_eq_true'.1 h1
  simp only [Bool.and_eq_true, decide_eq_true_eq] at h4
  have hr := hd e he h4.1
  rw [h4.2] at hr
  cases hl : l[j]? with
  | none => rw [hl] at h2; cases h2
  | some x =>
    rw [hl] at h2
    exact h.eval hg hr hl (by simpa using h2) h3

theorem Fr.depE {a0 a : Act} {r : Nat → Option Value} {l : List Oper} {es : Array Edge} {G : Nat → Value → Prop} {C : Prop} (h : Fr l.toArray a0 r a) (hg : ∀ j v, r j = some v → G j v) (hd : ∀ e ∈ es, Region.binds .any e = true → r e.on ≠ none)
    (j : Nat) (t : Tmp) (hb : depB l es a0.tmps.size j t = true) (k : ∀ v, a.tmps.getD t undef = v → G j v → r j = some v → C) : C := by
  obtain ⟨v, h1, h2, h3⟩ := h.dep hg hd j t hb
  exact k v h1 h2 h3

theorem get_of_getD {a : Act} {t : Tmp} {v : Value} (h : a.tmps.getD t undef = v) : a.tmps[t]?.getD undef = v := by
  rw [← h]
  simp

/-- A slot that no operation of the region writes. -/
def freeB (l : List Oper) (t : Tmp) : Bool := l.all fun o => match o.dst with | some d => decide (d ≠ t) | none => true
theorem Fr.evalFree {a0 a : Act} {r : Nat → Option Value} {l : List Oper} (h : Fr l.toArray a0 r a) {t : Tmp} (hf : freeB l t = true) : a.tmps.getD t undef = a0.tmps.getD t undef := by
  have := h.rest t fun j o hj ho => by
    have hm : o ∈ l := List.mem_of_getElem? (by simpa using hj)
    have := List.all_eq_true.1 hf o hm
    rw [ho] at this
    simp at this
  simp [this]
end
end Go.Kq

namespace Go.Kq
open Go.RowKit

section
variable {P : Program} {Q : Exit → Act → World → Prop} {l : List Oper} {i j : Nat} {o x : Oper} {t : Tmp} {want b : Bool} {a : Act} {w : World} {K : Act → World → Prop}
theorem yielded_of (hj : l[j]? = some x) (hx : x.dst = some t) (hv : a.tmps.getD t undef = .bool b) : yielded l.toArray a.tmps j = some b := by
  have h1 : a.tmps[t]? = some (.bool b) := by
    cases h : a.tmps[t]? with
    | none =>
      rw [Array.getD_eq_getD_getElem?, h] at hv
      cases hv
    | some u =>
      rw [Array.getD_eq_getD_getElem?, h] at hv
      exact congrArg some hv
  have h2 : l.toArray[j]? = some x := by simpa using hj
  unfold yielded
  rw [h2]
  simp only [Option.bind_some, hx, h1]
theorem wpOp_run (ho : l[i]? = some o) (hg : o.guard = some (j, want)) (hj : l[j]? = some x) (hx : x.dst = some t) (hv : a.tmps.getD t undef = .bool want) (h : o.wp P a w K Q) : wpOp P l.toArray Q i K a w := by
  unfold wpOp
  have h2 : l.toArray[i]? = some o := by simpa using ho
  rw [h2]
  have h3 : Region.wanted o (yielded l.toArray a.tmps) = true := by
    unfold Region.wanted
    simp only [hg, yielded_of hj hx hv, beq_self_eq_true]
  simp only [h3, if_true]
  exact .inl h
theorem wpOp_skip (ho : l[i]? = some o) (hg : o.guard = some (j, want)) (hj : l[j]? = some x) (hx : x.dst = some t) (hv : a.tmps.getD t undef = .bool b) (hb : b ≠ want) (h : K (a.put o.dst undef) w) : wpOp P l.toArray Q i K a w := by
  unfold wpOp
  have h2 : l.toArray[i]? = some o := by simpa using ho
  rw [h2]
  have h3 : Region.wanted o (yielded l.toArray a.tmps) = false := by
    unfold Region.wanted
    simp only [hg, yielded_of hj hx hv]
    simpa using hb
  simp only [h3]
  exact h
/-- A slot that only one operation of the region writes, which has not run. -/
def onlyB (l : List Oper) (t : Tmp) (i : Nat) : Bool := (List.range l.length).all fun j => decide (j = i) || match l[j]? with
  | some o => match o.dst with
    | some d => decide (d ≠ t)
    | none => true
  | none => true
theorem Fr.evalLate {a0 : Act} {r : Nat → Option Value} (h : Fr l.toArray a0 r a) (t : Tmp) (i : Nat) (hf : onlyB l t i = true) (hr : r i = none) : a.tmps.getD t undef = a0.tmps.getD t undef := by
  have := h.rest t fun j o hj ho => by
    have hj' : l[j]? = some o := by simpa using hj
    have hlt := (List.getElem?_eq_some_iff.1 hj').1
    have h1 := List.all_eq_true.1 hf j (List.mem_range.2 hlt)
    rw [hj'] at h1
    simp only [ho] at h1
    by_cases e : j = i
    · rw [e]
      exact hr
    · simp [e] at h1
  simp [this]
end
end Go.Kq

namespace Go.Kq
open Go.RowKit

/-- Facts that outlive calls. -/
def Stab (F : Nat → World → Value → Prop) : Prop := ∀ i u w w', Kp No w w' → F i w u → F i w' u
/-- The world while a region runs that only calls and reads: F i w u is said of the result u of operation i. -/
structure HvW (base : World) (F : Nat → World → Value → Prop) (r : Nat → Option Value) (w : World) : Prop where
  kp : Kp No base w
  hv : ∀ i u, r i = some u → F i w u
section
variable {base w w' : World} {F : Nat → World → Value → Prop} {r : Nat → Option Value}
theorem HvW.start (base : World) (F : Nat → World → Value → Prop) : HvW base F (fun _ => none) base.drew := ⟨Kp.drew _ _, fun _ _ h => (by cases h)⟩
theorem HvW.upd (h : HvW base F r w) (i : Nat) (v : Value) (hf : F i w v) : HvW base F (Kq.upd r i v) w :=
  ⟨h.kp, fun j u hu => by
    by_cases e : j = i
    · subst e
      rw [upd_same] at hu
      cases hu
      exact hf
    · rw [upd_ne _ _ e] at hu
      exact h.hv j u hu⟩
theorem HvW.call (h : HvW base F r w) (hF : Stab F) (k : Kp No w w') : HvW base F r w' := ⟨h.kp.tr k, fun i u hu => hF i u w w' k (h.hv i u hu)⟩
end
/-- The same with one store into block B: operation st stores what operation src gave. -/
structure HvS (base : World) (B : Nat) (t : TypeId) (zero : Array Value) (st src : Nat) (F : Nat → World → Value → Prop) (r : Nat → Option Value) (w : World) : Prop where
  kp : Kp (One B) base w
  b0 : r st = none → w.heap[B]? = some (.cells zero t (0, 0))
  b1 : r st ≠ none → ∃ cs, r src = some (.agg cs) ∧ w.heap[B]? = some (.cells cs t (0, 0))
  hv : ∀ i u, r i = some u → F i w u
section
variable {base w w' : World} {B : Nat} {t : TypeId} {zero : Array Value} {st src : Nat} {F : Nat → World → Value → Prop} {r : Nat → Option Value}
theorem HvS.start (h : base.heap[B]? = some (.cells zero t (0, 0))) : HvS base B t zero st src F (fun _ => none) base.drew := ⟨Kp.drew _ _, fun _ => h, fun h => absurd rfl h, fun _ _ h => (by cases h)⟩
theorem HvS.upd (h : HvS base B t zero st src F r w) (i : Nat) (v : Value) (hr : r i = none) (hi : i ≠ st) (hf : F i w v) : HvS base B t zero st src F (Kq.upd r i v) w := by
  have e1 : Kq.upd r i v st = r st := upd_ne _ _ (fun e => hi e.symm)
  refine ⟨h.kp, by rw [e1]; exact h.b0, fun hs => ?_, fun j u hu => ?_⟩
  · rw [e1] at hs
    obtain ⟨cs, h1, h2⟩ := h.b1 hs
    exact ⟨cs, by rw [upd_ne _ _ (fun e => by rw [e, hr] at h1; cases h1)]; exact h1, h2⟩
  · by_cases e : j = i
    · subst e
      rw [upd_same] at hu
      cases hu
      exact hf
    · rw [upd_ne _ _ e] at hu
      exact h.hv j u hu
theorem HvS.call (h : HvS base B t zero st src F r w) (hF : Stab F) (k : Kp No w w') : HvS base B t zero st src F r w' :=
  ⟨h.kp.no k, fun hs => k.heap (h.b0 hs) id, fun hs => by
    obtain ⟨cs, h1, h2⟩ := h.b1 hs
    exact ⟨cs, h1, k.heap h2 id⟩, fun i u hu => hF i u w w' k (h.hv i u hu)⟩
theorem HvS.store (h : HvS base B t zero st src F r w) (hF : ∀ i u w w', Kp (One B) w w' → F i w u → F i w' u) (hne : src ≠ st) {cs : Array Value} (hu : r src = some (.agg cs)) (hk : Kp (One B) w w') (hh : w'.heap[B]? = some (.cells cs t (0, 0))) (v : Value) (hf : F st w' v) :
    HvS base B t zero st src F (Kq.upd r st v) w' := by
  refine ⟨h.kp.tr hk, fun hs => ?_, fun _ => ⟨cs, by rw [upd_ne _ _ hne]; exact hu, hh⟩, fun j u hj => ?_⟩
  · rw [upd_same] at hs
    cases hs
  · by_cases e : j = st
    · subst e
      rw [upd_same] at hj
      cases hj
      exact hf
    · rw [upd_ne _ _ e] at hj
      exact hF j u w w' hk (h.hv j u hj)
end
section
variable {P : Program} {Q : Exit → Act → World → Prop} {l : List Oper} {i j : Nat} {o x : Oper} {t : Tmp} {want : Bool} {a : Act} {w : World} {K : Act → World → Prop}
/-- An operation whose guard was itself passed over. -/
theorem wpOp_skipU (ho : l[i]? = some o) (hg : o.guard = some (j, want)) (hj : l[j]? = some x) (hx : x.dst = some t) (hv : a.tmps.getD t undef = undef) (h : K (a.put o.dst undef) w) : wpOp P l.toArray Q i K a w := by
  unfold wpOp
  have h2 : l.toArray[i]? = some o := by simpa using ho
  have h4 : l.toArray[j]? = some x := by simpa using hj
  rw [h2]
  have h3 : Region.wanted o (yielded l.toArray a.tmps) = false := by
    unfold Region.wanted
    simp only [hg]
    unfold yielded
    rw [h4]
    simp only [Option.bind_some, hx]
    cases h5 : a.tmps[t]? with
    | none => simp
    | some u =>
      rw [Array.getD_eq_getD_getElem?, h5] at hv
      simp at hv
      subst hv
      rfl
  simp only [h3]
  exact h
end
end Go.Kq

namespace Go.Kq
open Go.RowKit

/-- A box: operation a makes it, with the cells zero; operation s fills it: then it has the cells full. v: what operation a gives. -/
structure Bx where
  a : Nat
  s : Nat
  t : TypeId
  zero : Array Value
  full : Array Value
  v : Nat → Value
def ptrV (g : Nat) : Value := .pointer (some ⟨g, 0, none⟩)
def slcV (n : Nat) (g : Nat) : Value := .slice (some ⟨g, 0, none⟩) n n
theorem ptrV_inj {a b : Nat} (h : ptrV a = ptrV b) : a = b := by
  unfold ptrV at h
  injection h with h
  injection h with h
  injection h
theorem slcV_inj (n : Nat) {a b : Nat} (h : slcV n a = slcV n b) : a = b := by
  unfold slcV at h
  injection h with h
  injection h with h
  injection h
/-- The numbers of operations are apart. -/
def apartL (L : List Bx) : Bool := decide ((L.map (·.a) ++ L.map (·.s)).Nodup)
structure BxW (w1 : World) (L : List Bx) (r : Nat → Option Value) (w : World) : Prop where
  kp : Kp No w1 w
  box : ∀ x ∈ L, ∀ u, r x.a = some u → ∃ g, u = x.v g ∧ w1.heap.size ≤ g ∧ g < w.heap.size ∧ w.heap[g]? = some (.cells (if (r x.s).isSome then x.full else x.zero) x.t (0, 0))
  ne : ∀ x ∈ L, ∀ y ∈ L, x.a ≠ y.a → ∀ g h, r x.a = some (x.v g) → r y.a = some (y.v h) → g ≠ h
  had : ∀ x ∈ L, r x.s ≠ none → r x.a ≠ none
section
variable {w1 w w' : World} {L : List Bx} {r : Nat → Option Value}
theorem BxW.start (w1 : World) (L : List Bx) : BxW w1 L (fun _ => none) w1.drew :=
  ⟨Kp.drew _ _, fun _ _ _ h => (by cases h), fun _ _ _ _ _ _ _ h => (by cases h), fun _ _ h => absurd rfl h⟩
def freeOf (L : List Bx) (i : Nat) : Bool := L.all fun x => decide (x.a ≠ i) && decide (x.s ≠ i)
theorem freeOf_of {i : Nat} (h : freeOf L i = true) {x : Bx} (hx : x ∈ L) : x.a ≠ i ∧ x.s ≠ i := by
  have := List.all_eq_true.1 h x hx
  simpa using this
theorem BxW.upd {i : Nat} (h : BxW w1 L r w) (hf : freeOf L i = true) (v : Value) : BxW w1 L (Kq.upd r i v) w := by
  have e1 : ∀ x ∈ L, Kq.upd r i v x.a = r x.a := fun x hx => upd_ne _ _ (freeOf_of hf hx).1
  have e2 : ∀ x ∈ L, Kq.upd r i v x.s = r x.s := fun x hx => upd_ne _ _ (freeOf_of hf hx).2
  refine ⟨h.kp, fun x hx u hu => ?_, fun x hx y hy hne g k h1 h2 => ?_, fun x hx hs => ?_⟩
  · rw [e1 x hx] at hu
    rw [e2 x hx]
    exact h.box x hx u hu
  · rw [e1 x hx] at h1
    rw [e1 y hy] at h2
    exact h.ne x hx y hy hne g k h1 h2
  · rw [e2 x hx] at hs
    rw [e1 x hx]
    exact h.had x hx hs
theorem BxW.call (h : BxW w1 L r w) (k : Kp No w w') : BxW w1 L r w' :=
  ⟨h.kp.tr k, fun x hx u hu => by
    obtain ⟨g, h1, h2, h3, h4⟩ := h.box x hx u hu
    exact ⟨g, h1, h2, Nat.lt_of_lt_of_le h3 k.size, k.heap h4 id⟩, h.ne, h.had⟩
theorem nodup_idx (hL : apartL L = true) {x y : Bx} (hx : x ∈ L) (hy : y ∈ L) : x.a ≠ y.s ∧ (x.s = y.s → x.a = y.a) := by
  unfold apartL at hL
  rw [decide_eq_true_eq, List.nodup_append] at hL
  obtain ⟨_, h2, h3⟩ := hL
  refine ⟨h3 _ (List.mem_map_of_mem hx) _ (List.mem_map_of_mem hy), fun e => ?_⟩
  obtain ⟨i, hi, hxi⟩ := List.mem_iff_getElem.1 hx
  obtain ⟨j, hj, hyj⟩ := List.mem_iff_getElem.1 hy
  have hij : i = j := by
    have hp := List.pairwise_iff_getElem.1 h2
    rcases Nat.lt_trichotomy i j with h | h | h
    · have := hp i j (by simpa using hi) (by simpa using hj) h
      simp [hxi, hyj, e] at this
    · exact h
    · have := hp j i (by simpa using hj) (by simpa using hi) h
      simp [hxi, hyj, e] at this
  subst hij
  rw [← hxi, ← hyj]
theorem BxW.alloc (h : BxW w1 L r w) (hL : apartL L = true) {x : Bx} (hx : x ∈ L) (hr : r x.a = none) (hv : ∀ y ∈ L, ∀ {p q}, y.v p = y.v q → p = q) (hsame : ∀ y ∈ L, y.a = x.a → y = x) : BxW w1 L (Kq.upd r x.a (x.v w.heap.size)) (w.alloc (.cells x.zero x.t)) := by
  have hs : r x.s = none := by
    cases hs : r x.s with
    | none => rfl
    | some v => exact absurd hr (h.had x hx (by rw [hs]; simp))
  have es : ∀ y ∈ L, Kq.upd r x.a (x.v w.heap.size) y.s = r y.s := fun y hy => upd_ne _ _ (fun e => (nodup_idx hL hx hy).1 e.symm)
  have hnew : (w.alloc (.cells x.zero x.t)).heap[w.heap.size]? = some (.cells x.zero x.t (0, 0)) := heap_alloc_new w _
  refine ⟨h.kp.tr (Kp.alloc _ _ _), fun y hy u hu => ?_, fun y hy z hz hne g k h1 h2 => ?_, fun y hy hys => ?_⟩
  · rw [es y hy]
    by_cases e : y.a = x.a
    · obtain rfl := hsame y hy e
      rw [upd_same] at hu
      cases hu
      refine ⟨_, rfl, h.kp.size, by simp, ?_⟩
      rw [hs]
      exact hnew
    · rw [upd_ne _ _ e] at hu
      obtain ⟨g, q1, q2, q3, q4⟩ := h.box y hy u hu
      exact ⟨g, q1, q2, by simp; omega, (Kp.alloc No w _).heap q4 id⟩
  · by_cases e1 : y.a = x.a
    · obtain rfl := hsame y hy e1
      rw [upd_same] at h1
      rw [upd_ne _ _ (fun e => hne e.symm)] at h2
      obtain ⟨g', q1, _, q3, _⟩ := h.box z hz _ h2
      have e2 := hv y hy (Option.some.inj h1)
      have e3 := hv z hz q1
      omega
    · rw [upd_ne _ _ e1] at h1
      by_cases e2 : z.a = x.a
      · obtain rfl := hsame z hz e2
        rw [upd_same] at h2
        obtain ⟨g', q1, _, q3, _⟩ := h.box y hy _ h1
        have e3 := hv y hy q1
        have e4 := hv z hz (Option.some.inj h2)
        omega
      · rw [upd_ne _ _ e2] at h2
        exact h.ne y hy z hz hne g k h1 h2
  · rw [es y hy] at hys
    have := h.had y hy hys
    by_cases e : y.a = x.a
    · rw [e, upd_same]; simp
    · rw [upd_ne _ _ e]
      exact this
theorem BxW.store (h : BxW w1 L r w) (hL : apartL L = true) {x : Bx} (hx : x ∈ L) {g : Nat} (hr : r x.a = some (x.v g)) (hgl : w1.heap.size ≤ g) (_hv : ∀ y ∈ L, ∀ {p q}, y.v p = y.v q → p = q) (hsame : ∀ y ∈ L, y.a = x.a → y = x) (hk : Kp (One g) w w') (hg : w'.heap[g]? = some (.cells x.full x.t (0, 0))) (v : Value) :
    BxW w1 L (Kq.upd r x.s v) w' := by
  have ea : ∀ y ∈ L, Kq.upd r x.s v y.a = r y.a := fun y hy => upd_ne _ _ (nodup_idx hL hy hx).1
  refine ⟨h.kp.trans hk (fun k hk e => by unfold One at e; omega), fun y hy u hu => ?_, fun y hy z hz hne p q h1 h2 => ?_, fun y hy hys => ?_⟩
  · rw [ea y hy] at hu
    by_cases e : y.a = x.a
    · obtain rfl := hsame y hy e
      rw [hr] at hu
      cases hu
      refine ⟨g, rfl, hgl, (Array.getElem?_eq_some_iff.1 hg).1, ?_⟩
      rw [upd_same]
      exact hg
    · obtain ⟨g', q1, q2, q3, q4⟩ := h.box y hy u hu
      subst q1
      have hne := h.ne y hy x hx e g' g hu hr
      refine ⟨g', rfl, q2, Nat.lt_of_lt_of_le q3 hk.size, ?_⟩
      rw [upd_ne _ _ (fun e2 => e ((nodup_idx hL hy hx).2 e2))]
      exact hk.heap q4 (fun e => hne e)
  · rw [ea y hy] at h1
    rw [ea z hz] at h2
    exact h.ne y hy z hz hne p q h1 h2
  · rw [ea y hy]
    by_cases e : y.s = x.s
    · have := hsame y hy ((nodup_idx hL hy hx).2 e)
      subst this
      rw [hr]
      simp
    · rw [upd_ne _ _ e] at hys
      exact h.had y hy hys
/-- A filled box. -/
theorem BxW.filled (h : BxW w1 L r w) {x : Bx} (hx : x ∈ L) (hs : r x.s ≠ none) : ∃ g, r x.a = some (x.v g) ∧ w1.heap.size ≤ g ∧ g < w.heap.size ∧ w.heap[g]? = some (.cells x.full x.t (0, 0)) := by
  cases ha : r x.a with
  | none => exact absurd ha (h.had x hx hs)
  | some u =>
    obtain ⟨g, rfl, h2, h3, h4⟩ := h.box x hx u ha
    rw [if_pos (Option.isSome_iff_ne_none.2 hs)] at h4
    exact ⟨g, rfl, h2, h3, h4⟩
/-- A box that has not been filled. -/
theorem BxW.empty (h : BxW w1 L r w) {x : Bx} (hx : x ∈ L) (hs : r x.s = none) {u : Value} (hu : r x.a = some u) : ∃ g, u = x.v g ∧ w1.heap.size ≤ g ∧ g < w.heap.size ∧ w.heap[g]? = some (.cells x.zero x.t (0, 0)) := by
  obtain ⟨g, h1, h2, h3, h4⟩ := h.box x hx u hu
  rw [hs] at h4
  exact ⟨g, h1, h2, h3, h4⟩
end
end Go.Kq
