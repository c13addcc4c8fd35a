/- Chapter 15: the least combinations: what the law asks of them, plain. · Chapter 15: one stop more: plain. · LibReg's rule inside the round of a loop over an iterator. No program in sight. -/
import Derived.OrdersIn
import Derived.RangeFuncCalls
import Derived.TacticsIn
import Derived.OwnWalkIn
import Derived.Test.YtpkbpeeelpgmcaaGreatXCmBM
import Derived.Test.YtpkbpeeelpgmcaaGreatXLibReg
import Derived.Test.YtpkbpeeelpgmcaaGreatXWdEM
namespace Go.Proofs.YtpkbpeeelpgmcaaGreat

/-- A list without its i-th element. -/
def cutL (l : List Nat) (i : Nat) : List Nat := l.take i ++ l.drop (i + 1)
theorem cutL_mem {l : List Nat} {i x : Nat} (h : x ∈ cutL l i) : x ∈ l := by
  rcases List.mem_append.1 h with h | h
  · exact List.mem_of_mem_take h
  · exact List.mem_of_mem_drop h
theorem cutL_len {l : List Nat} {i : Nat} (h : i < l.length) : (cutL l i).length + 1 = l.length := by
  unfold cutL
  rw [List.length_append, List.length_take, List.length_drop]
  omega
theorem cutL_up {l : List Nat} (i : Nat) (h : l.Pairwise (· < ·)) : (cutL l i).Pairwise (· < ·) := by
  unfold cutL
  rw [← List.eraseIdx_eq_take_drop_succ]
  exact h.sublist (List.eraseIdx_sublist _ _)
/-- A combination without one of its stops or keys. -/
def lessC (c : Cb) (i : Nat) : Cb := if i < c.st.length then ⟨cutL c.st i, c.ky⟩ else ⟨c.st, cutL c.ky (i - c.st.length)⟩
theorem lessC_ok {S K : Nat} {c : Cb} (h : CbOk S K c) (i : Nat) : CbOk S K (lessC c i) := by
  unfold lessC
  split
  · exact ⟨cutL_up _ h.s1, fun x hx => h.s2 x (cutL_mem hx), h.k1, h.k2⟩
  · exact ⟨h.s1, h.s2, cutL_up _ h.k1, fun x hx => h.k2 x (cutL_mem hx)⟩
theorem lessC_in (c : Cb) (i : Nat) : (lessC c i).inB c = true := by
  rw [Cb.inB_iff]
  unfold lessC
  split
  · exact ⟨fun x hx => cutL_mem hx, fun x hx => hx⟩
  · exact ⟨fun x hx => hx, fun x hx => cutL_mem hx⟩
theorem lessC_ne {c : Cb} {i : Nat} (h : i < c.st.length + c.ky.length) : lessC c i ≠ c := fun e => by
  unfold lessC at e
  split at e
  · rename_i h1
    have h2 := cutL_len h1
    have := congrArg (fun c => c.st.length) e
    simp only at this
    omega
  · have h2 := cutL_len (l := c.ky) (i := i - c.st.length) (by omega)
    have := congrArg (fun c => c.ky.length) e
    simp only at this
    omega
/-- A least one starves, and not without one of its stops or keys. -/
theorem least_no {S K : Nat} {p : Cb → Bool} {c : Cb} (hc : c ∈ leaC S K p) {i : Nat} (h : i < c.st.length + c.ky.length) : p (lessC c i) = false := by
  obtain ⟨hok, hm⟩ := mem_leaC.1 hc
  cases hp : p (lessC c i) with
  | false => rfl
  | true => exact absurd ((minB_iff.1 hm).2 _ (lessC_ok hok i) (lessC_in c i) hp) (lessC_ne h)
theorem least_yes {S K : Nat} {p : Cb → Bool} {c : Cb} (hc : c ∈ leaC S K p) : p c = true := (minB_iff.1 (mem_leaC.1 hc).2).1
theorem least_up {S K : Nat} {p : Cb → Bool} {i : Nat} {a b : Cb} (ha : (leaC S K p)[i]? = some a) (hb : (leaC S K p)[i + 1]? = some b) : cmpC a b < 0 := by
  have h := leaC_up S K p
  obtain ⟨h1, e1⟩ := List.getElem?_eq_some_iff.1 ha
  obtain ⟨h2, e2⟩ := List.getElem?_eq_some_iff.1 hb
  have := List.pairwise_iff_getElem.1 h i (i + 1) h1 h2 (by omega)
  rw [e1, e2] at this
  exact this
end Go.Proofs.YtpkbpeeelpgmcaaGreat

namespace Go.Proofs.YtpkbpeeelpgmcaaGreat
open Go.Flow

theorem safN_mono' {K : Nat} {p q : List Nat → Bool} (h : ∀ s, p (numB s K) = true → q (numB s K) = true) : safN K q ≤ safN K p := by
  rcases safF_is (K := K) (p := p) (2 ^ K) with h1 | ⟨s, h1, h2, h3⟩
  · have := safF_le (K := K) (p := q) (2 ^ K)
    unfold safN
    omega
  · have := safF_lt (K := K) (p := q) (2 ^ K) s h1 (h _ h2)
    unfold safN
    omega
/-- The stops below k that are kk or among ss. -/
def moreT (ss : List Nat) (kk : Int) (k : Nat) : List Nat := (List.range k).filter fun i => decide ((i : Int) = kk) || decide (i ∈ ss)
theorem moreT_succ (ss : List Nat) (kk : Int) (k : Nat) : moreT ss kk (k + 1) = moreT ss kk k ++ if decide ((k : Int) = kk) || decide (k ∈ ss) then [k] else [] := by
  unfold moreT
  rw [List.range_succ, List.filter_append]
  simp [List.filter_cons]
theorem moreT_up (ss : List Nat) (kk : Int) (k : Nat) : (moreT ss kk k).Pairwise (· < ·) := List.Pairwise.filter _ List.pairwise_lt_range
theorem moreT_lt {ss : List Nat} {kk : Int} {k x : Nat} (h : x ∈ moreT ss kk k) : x < k := List.mem_range.1 (List.mem_filter.1 h).1
theorem moreT_in {ss : List Nat} {kk : Int} {k x : Nat} (hk : x < k) (h : x ∈ ss) : x ∈ moreT ss kk k := List.mem_filter.2 ⟨List.mem_range.2 hk, by simp [h]⟩
theorem moreT_len (ss : List Nat) (kk : Int) (k : Nat) : (moreT ss kk k).length ≤ k := by
  unfold moreT
  have := List.length_filter_le (fun i : Nat => decide ((i : Int) = kk) || decide (i ∈ ss)) (List.range k)
  rw [List.length_range] at this
  exact this
theorem star_more {N : Net} {l : List Sto} (hok : StoOk N.ch.length l) {ss st ks : List Nat} (h1 : ss.Nodup) (h2 : ks.Nodup) (h : ∀ x ∈ ss, x ∈ st) (hs : starB N l ss ks = true) : starB N l st ks = true := by
  rw [starB_iff] at *
  exact hs.mono (dmd_len _ _ _ _) (dmd_len _ _ _ _) fun c => dmd_mono hok h1 h2 h (fun _ h => h) c
end Go.Proofs.YtpkbpeeelpgmcaaGreat

namespace Go.Kq
open Go.RowKit
/-- What holds of an operation anywhere holds in a round. -/
theorem wpIn_of_wp {n : Nat} {P : Program} {o : Oper} {a : Act} {w : World} {K : Act → World → Prop} {Q : Exit → Act → World → Prop} {lp : Nat} (hd : ∀ c, o.op ≠ .defer c) (h : o.wp P a w K Q) : o.wpIn (Fence.wide.inRound lp) n P a w K Q := by
  refine ⟨fun _ _ => trivial, ?_⟩
  rw [Oper.semAt_plain _ _ _ hd]
  unfold Oper.wp at h
  generalize (execOp a.eval o).run P w = r at *
  cases r with
  | ok x w' =>
    cases x <;> simp only [Oper.uponIn, Oper.upon] at h ⊢ <;>
      first
        | exact h
        | exact ⟨fun h => (by cases h), CallsIn.inRound lp (callsIn_wide.2 h)⟩
        | exact ⟨fun h => (by cases h), fun c cs _ => let ⟨v, w2, r, s⟩ := h c cs; ⟨v, w2, r, stepsIn_wide.2 s⟩⟩
  | halt x w' => cases x <;> simp only [Oper.uponIn, Oper.upon] at h ⊢ <;> exact h
def isDefer : Op → Bool
  | .defer _ => true
  | _ => false
theorem not_defer {o : Op} (h : isDefer o = false) (c : Call) : o ≠ .defer c := fun e => by rw [e] at h; cases h
section
variable {P : Program} {ops : Array Oper} {Q : Exit → Act → World → Prop} {md : Region.Mode} {F : Fence} {n : Nat}

theorem wpAnyIn_inv (hb : backB md ops = true) (I : Array Bool → Act → World → Prop)
    (hstep : ∀ listed a w, I listed a w → listed.size = ops.size → ∀ i, i < ops.size → listed.getD i true = false →
      (∀ o, ops[i]? = some o → ∀ e ∈ o.after, Region.binds md e = true → listed.getD e.on false = true) → wpOpIn F n P ops Q i (I (listed.setIfInBounds i true)) a w)
    (hend : ∀ listed a w, I listed a w → (∀ i, i < ops.size → listed.getD i false = true) → Q .normal a w) :
    ∀ (fuel : Nat) (listed : Array Bool) (a : Act) (w : World), listed.size = ops.size → unl listed ops.size ≤ fuel → I listed a w → wpAnyIn F n P md ops Q fuel listed a w
  | 0, listed, a, w, hs, hl, hI => by
    have hz := unl_zero ops.size (by omega : unl listed ops.size = 0)
    refine ⟨?_, hend listed a w hI fun i hi => ?_⟩
    · cases hr : Region.ready md ops listed with
      | nil => rfl
      | cons x xs =>
        have hx : x ∈ Region.ready md ops listed := by rw [hr]; simp
        unfold Region.ready at hx
        obtain ⟨h1, h2⟩ := List.mem_filter.1 hx
        have := hz x (List.mem_range.1 h1)
        rw [this] at h2
        simp at h2
    · have := hz i hi
      have hsz : i < listed.size := by omega
      simp [hsz] at this ⊢
      exact this
  | fuel + 1, listed, a, w, hs, hl, hI => by
    refine ⟨fun h => hend listed a w hI (ready_nil hb hs h), fun i hi => ?_⟩
    have hi' := hi
    unfold Region.ready at hi'
    obtain ⟨h1, h2⟩ := List.mem_filter.1 hi'
    have hlt := List.mem_range.1 h1
    simp only [Bool.and_eq_true, Bool.not_eq_true'] at h2
    refine wpOpIn_mono (fun a' w' h' => ?_) (hstep listed a w hI hs i hlt h2.1 ?_)
    · have := unl_set h2.1 ops.size hlt
      exact wpAnyIn_inv hb I hstep hend fuel _ a' w' (by simpa using hs) (by omega) h'
    · intro o ho e he hbd
      have h3 := h2.2
      rw [ho] at h3
      simp only [Option.map_some, Option.getD_some] at h3
      have := Array.all_eq_true_iff_forall_mem.1 h3 e he
      rw [hbd] at this
      simpa using this

/-- THE RULE. -/
theorem wpIn_region_inv {id : Nat} {a : Act} {w : World} (hm : P.follows .mixedOrders = true) (hb : backB .any ops = true) (I : Array Bool → Act → World → Prop)
    (h0 : I (Array.replicate ops.size false) a w.drew)
    (hstep : ∀ listed a w, I listed a w → listed.size = ops.size → ∀ i, i < ops.size → listed.getD i true = false →
      (∀ o, ops[i]? = some o → ∀ e ∈ o.after, Region.binds .any e = true → listed.getD e.on false = true) → wpOpIn F n P ops Q i (I (listed.setIfInBounds i true)) a w)
    (hend : ∀ listed a w, I listed a w → (∀ i, i < ops.size → listed.getD i false = true) → Q .normal a w) :
    (Code.region id ops true).wpIn F n P Q a w :=
  wpIn_region_any hm (wpAnyIn_inv hb I hstep hend ops.size _ a _ (by simp) (unl_le _ _) h0)
end
section
variable {P : Program} {ops : Array Oper} {Q : Exit → Act → World → Prop} {F : Fence} {n : Nat}
theorem wpIn_region_vals {id : Nat} {l : List Oper} {a0 : Act} {w : World} (G : Nat → Value → Prop) (W : (Nat → Option Value) → World → Prop)
    (hm : P.follows .mixedOrders = true) (hb : backB .any l.toArray = true) (hap : apartB l.toArray = true)
    (h0 : W (fun _ => none) w.drew)
    (hstep : ∀ r a w, Fr l.toArray a0 r a → (∀ j v, r j = some v → G j v) → W r w → ∀ i o, l[i]? = some o → r i = none → (∀ e ∈ o.after, Region.binds .any e = true → r e.on ≠ none) →
      ∀ K : Act → World → Prop, (∀ v w', G i v → W (upd r i v) w' → K (a.put o.dst v) w') → wpOpIn F n P l.toArray Q i K a w)
    (hend : ∀ r w, (∀ j v, r j = some v → G j v) → W r w → (∀ i, i < l.length → r i ≠ none) → Q .normal (putAll l ((List.range l.length).map fun i => (r i).getD undef) a0) w) :
    (Code.region id l.toArray true).wpIn F n P Q a0 w := by
  refine wpIn_region_inv hm hb (fun listed a w => ∃ r : Nat → Option Value, (∀ i, i < l.length → (listed.getD i false = true ↔ r i ≠ none)) ∧ (∀ i, l.length ≤ i → r i = none) ∧ Fr l.toArray a0 r a ∧ (∀ j v, r j = some v → G j v) ∧ W r w) ?_ ?_ ?_
  · refine ⟨fun _ => none, fun i hi => ?_, fun _ _ => rfl, Fr.start _ _, fun _ _ h => (by cases h), h0⟩
    simp [hi]
  · rintro listed a w ⟨r, hl, hn, hf, hg, hw⟩ hs i hi hli hdeps
    have hil : i < l.length := by simpa using hi
    have ho : l[i]? = some l[i] := List.getElem?_eq_getElem hil
    have ho' : l.toArray[i]? = some l[i] := by simp
    have hri : r i = none := by
      cases h : r i with
      | none => rfl
      | some v =>
        have := (hl i hil).2 (by rw [h]; simp)
        have hsz : i < listed.size := by omega
        simp [hsz] at this hli
        rw [this] at hli
        cases hli
    refine hstep r a w hf hg hw i _ ho hri (fun e he hbd => ?_) _ fun v w' hgv hw' => ?_
    · have h1 := hdeps _ ho' e he hbd
      refine (hl e.on ?_).1 h1
      rcases Nat.lt_or_ge e.on listed.size with h' | h'
      · rw [hs] at h'; simpa using h'
      · simp [Array.getElem?_eq_none h'] at h1
    · refine ⟨upd r i v, fun j hj => ?_, fun j hj => ?_, hf.put hap ho' v, fun j u hu => ?_, hw'⟩
      · by_cases hji : j = i
        · subst hji
          have hsz : j < listed.size := by omega
          simp [upd_same, hsz]
        · rw [upd_ne _ _ hji, ← hl j hj]
          simp [Array.getElem?_setIfInBounds_ne (fun e => hji e.symm)]
      · rw [upd_ne _ _ (by omega)]; exact hn j hj
      · by_cases hji : j = i
        · subst hji
          rw [upd_same] at hu
          cases hu
          exact hgv
        · rw [upd_ne _ _ hji] at hu
          exact hg j u hu
  · rintro listed a w ⟨r, hl, hn, hf, hg, hw⟩ hall
    have hr : ∀ i, i < l.length → r i ≠ none := fun i hi => (hl i hi).1 (hall i (by rw [List.size_toArray]; exact hi))
    obtain ⟨q', g1, g2, g3⟩ := putAll_fr (r := r) hap l 0 (fun _ => none) a0 (fun j => by simp) (fun j hj => by omega) (fun _ _ => rfl) (fun j hj => hr j (by simpa using hj)) (Fr.start _ _)
    have hq : q' = r := funext fun j => by
      by_cases hj : j < l.length
      · exact g1 j (by simpa using hj)
      · rw [g2 j (by simp; omega), hn j (by omega)]
    rw [hq] at g3
    have := hend r w hg hw hr
    rw [List.range_eq_range'] at this
    rw [hf.unique g3]
    exact this

/-- THE RULE, an obligation for each operation. -/
theorem wpIn_region_each {id : Nat} {l : List Oper} {a0 : Act} {w : World} (G : Nat → Value → Prop) (W : (Nat → Option Value) → World → Prop)
    (hm : P.follows .mixedOrders = true) (hb : backB .any l.toArray = true) (hap : apartB l.toArray = true)
    (h0 : W (fun _ => none) w.drew)
    (hstep : EachOp (fun i o => ∀ r a w, Fr l.toArray a0 r a → (∀ j v, r j = some v → G j v) → W r w → r i = none → (∀ e ∈ o.after, Region.binds .any e = true → r e.on ≠ none) →
      ∀ K : Act → World → Prop, (∀ v w', G i v → W (upd r i v) w' → K (a.put o.dst v) w') → wpOpIn F n P l.toArray Q i K a w) 0 l)
    (hend : ∀ r w, (∀ j v, r j = some v → G j v) → W r w → (∀ i, i < l.length → r i ≠ none) → Q .normal (putAll l ((List.range l.length).map fun i => (r i).getD undef) a0) w) :
    (Code.region id l.toArray true).wpIn F n P Q a0 w :=
  wpIn_region_vals G W hm hb hap h0 (fun r a w hf hg hW i o ho hr hd K hK => by
    have := EachOp.at_ l 0 hstep i o ho
    rw [Nat.zero_add] at this
    exact this r a w hf hg hW hr hd K hK) hend

end
section
variable {P : Program} {Q : Exit → Act → World → Prop} {l : List Oper} {i j : Nat} {o x : Oper} {t : Tmp} {want b : Bool} {a : Act} {w : World} {K : Act → World → Prop} {n lp : Nat}
theorem wpOpR_of (ho : l[i]? = some o) (hg : o.guard = none) (h : o.wp P a w K Q) (hd : isDefer o.op = false := by rfl) : wpOpIn (Fence.wide.inRound lp) n P l.toArray Q i K a w := by
  unfold wpOpIn
  have h2 : l.toArray[i]? = some o := by simpa using ho
  rw [h2]
  simp only [Region.wanted, hg, if_true]
  exact wpIn_of_wp (not_defer hd) h
theorem wpOpR_run (ho : l[i]? = some o) (hg : o.guard = some (j, want)) (hj : l[j]? = some x) (hx : x.dst = some t) (hv : a.tmps.getD t undef = .bool want) (h : o.wp P a w K Q) (hd : isDefer o.op = false := by rfl) : wpOpIn (Fence.wide.inRound lp) n P l.toArray Q i K a w := by
  unfold wpOpIn
  have h2 : l.toArray[i]? = some o := by simpa using ho
  rw [h2]
  have h3 : Region.wanted o (yielded l.toArray a.tmps) = true := by
    unfold Region.wanted
    simp only [hg, yielded_of hj hx hv, beq_self_eq_true]
  simp only [h3, if_true]
  exact wpIn_of_wp (not_defer hd) h
theorem wpOpR_skip (ho : l[i]? = some o) (hg : o.guard = some (j, want)) (hj : l[j]? = some x) (hx : x.dst = some t) (hv : a.tmps.getD t undef = .bool b) (hb : b ≠ want) (h : K (a.put o.dst undef) w) : wpOpIn (Fence.wide.inRound lp) n P l.toArray Q i K a w := by
  unfold wpOpIn
  have h2 : l.toArray[i]? = some o := by simpa using ho
  rw [h2]
  have h3 : Region.wanted o (yielded l.toArray a.tmps) = false := by
    unfold Region.wanted
    simp only [hg, yielded_of hj hx hv]
    simpa using hb
  simp only [h3]
  exact ⟨fun _ _ => trivial, h⟩
end
end Go.Kq
