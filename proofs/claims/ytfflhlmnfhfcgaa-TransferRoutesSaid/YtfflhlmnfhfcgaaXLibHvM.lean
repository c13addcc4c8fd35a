/- Chapter 33: what Route returns, in plain lists: its cost is the sum over the divisions, no other way costs less. · Values that a region draws and holds, with facts of the world: invariants for wp_region_each. No program in sight. -/
import Derived.Test.YtfflhlmnfhfcgaaXLibMakeM
import Derived.Test.YtfflhlmnfhfcgaaXLibReg
import Derived.Test.YtfflhlmnfhfcgaaXLibAppM
import Derived.Test.YtfflhlmnfhfcgaaXBaseM
namespace Go.Proofs.Ytfflhlmnfhfcgaa
open Go.RowKit Go.Kq

/-- What divisions cost that are played by others. -/
def csum (xs ys : List Vc) : List Nat → List Int → Int
  | f :: F, t :: ts => (cho xs ys f t).cost + csum xs ys F ts
  | _, _ => 0
theorem csum_snoc {xs ys : List Vc} : ∀ (F : List Nat) (ts : List Int) (k f : Nat) (t : Int), F[k]? = some f → ts[k]? = some t → csum xs ys (F.take (k + 1)) (ts.take (k + 1)) = csum xs ys (F.take k) (ts.take k) + (cho xs ys f t).cost
  | [], ts, k, f, t, h, _ => by simp at h
  | g :: F, [], k, f, t, _, h => by simp at h
  | g :: F, u :: ts, 0, f, t, h1, h2 => by
    simp at h1 h2
    subst h1 h2
    simp [csum]
  | g :: F, u :: ts, k + 1, f, t, h1, h2 => by
    have := csum_snoc (xs := xs) (ys := ys) F ts k f t (by simpa using h1) (by simpa using h2)
    simp only [List.take_succ_cons, csum, this]
    omega
def okR (X : List Int) (i : Nat) : Nat → Bool
  | 0 => true
  | k + 1 => okR X i k && (decide (X.getD i 0 < 0) || decide (X.getD i 0 ≠ X.getD k 0))
def okS (X : List Int) : Nat → Bool
  | 0 => true
  | i + 1 => okS X i && okR X i i
theorem okR_iff (X : List Int) (i : Nat) : ∀ n, okR X i n = true ↔ ∀ k, k < n → X.getD i 0 < 0 ∨ X.getD i 0 ≠ X.getD k 0
  | 0 => by simp [okR]
  | n + 1 => by
    simp only [okR, Bool.and_eq_true, okR_iff X i n, Bool.or_eq_true, decide_eq_true_eq]
    constructor
    · rintro ⟨h1, h2⟩ k hk
      rcases Nat.lt_or_ge k n with h | h
      · exact h1 k h
      · obtain rfl : k = n := by omega
        exact h2
    · exact fun h => ⟨fun k hk => h k (by omega), h n (by omega)⟩
theorem okS_iff (X : List Int) : ∀ n, okS X n = true ↔ ∀ i, i < n → ∀ k, k < i → X.getD i 0 < 0 ∨ X.getD i 0 ≠ X.getD k 0
  | 0 => by simp [okS]
  | n + 1 => by
    simp only [okS, Bool.and_eq_true, okS_iff X n, okR_iff]
    constructor
    · rintro ⟨h1, h2⟩ i hi
      rcases Nat.lt_or_ge i n with h | h
      · exact h1 i h
      · obtain rfl : i = n := by omega
        exact h2
    · exact fun h => ⟨fun i hi => h i (by omega), h n (by omega)⟩
theorem pin_none {l : List Vc} {d : Int} {k : Nat} (h : ∀ v ∈ l, v.d ≠ d) : pin l d k = [] := by
  unfold pin
  rw [List.filter_eq_nil_iff]
  intro i _ hi
  simp only [decide_eq_true_eq, Option.map_eq_some_iff] at hi
  obtain ⟨v, hv, hd⟩ := hi
  exact h v (List.mem_of_getElem? hv) hd
theorem cho_none {xs ys : List Vc} {f t u : Int} (ht : ∀ v ∈ ys, v.d ≠ t) (hu : ∀ v ∈ ys, v.d ≠ u) : (cho xs ys f t).cost = (cho xs ys f u).cost := by
  unfold cho pvo
  rw [pin_none ht, pin_none hu]
def norm (ys : List Vc) (t : Int) : Int := if t ∈ tos ys then t else -1
theorem norm_mem (ys : List Vc) (t : Int) : norm ys t ∈ tos ys := by
  unfold norm
  split
  · assumption
  · simp [tos]
theorem norm_cost {xs ys : List Vc} (gy : ∀ v ∈ ys, v.bad = false) (f t : Int) : (cho xs ys f (norm ys t)).cost = (cho xs ys f t).cost := by
  unfold norm
  split
  · rfl
  · rename_i h
    refine cho_none (fun v hv e => ?_) (fun v hv e => h ?_)
    · have := (bad_iff v).1 (gy v hv)
      omega
    · have hb := (bad_iff v).1 (gy v hv)
      unfold tos
      refine List.mem_cons_of_mem _ (List.mem_map.2 ⟨v.d.toNat, (divs_mem ys _).2 ⟨by omega, v, hv, by omega⟩, ?_⟩)
      rw [← e]
      show ((v.d.toNat : Nat) : Int) = v.d
      omega
theorem norm_nn {ys : List Vc} {t : Int} (h : 0 ≤ norm ys t) : norm ys t = t := by
  unfold norm at h ⊢
  split
  · rfl
  · rename_i hh
    rw [if_neg hh] at h
    omega
theorem tot_csum {xs ys : List Vc} : ∀ (F : List Nat) (T : List Cc), T.length = F.length → (∀ (i : Nat) (x : Cc) (f : Nat), T[i]? = some x → F[i]? = some f → x = cho xs ys f x.to) → totC T = csum xs ys F (T.map Cc.to)
  | [], [], _, _ => rfl
  | [], x :: T, h, _ => by simp at h
  | f :: F, [], h, _ => by simp at h
  | f :: F, x :: T, hl, h => by
    have h0 := h 0 x f rfl rfl
    have := tot_csum F T (by simpa using hl) fun i y g h1 h2 => h (i + 1) y g (by simpa using h1) (by simpa using h2)
    simp only [totC, List.map_cons, csum, this]
    rw [← h0]
theorem csum_norm {xs ys : List Vc} (gy : ∀ v ∈ ys, v.bad = false) : ∀ (F : List Nat) (ts : List Int), csum xs ys F (ts.map (norm ys)) = csum xs ys F ts
  | [], ts => by simp [csum]
  | f :: F, [] => by simp [csum]
  | f :: F, t :: ts => by simp only [List.map_cons, csum, norm_cost gy, csum_norm gy F ts]
/-- What is known of what Route returns. -/
theorem route_is {xs ys : List Vc} (he : chk xs ys 14 = 0) :
    let R := bestR (allC xs ys)
    R.to.length = (divs xs).length ∧ R.cost = csum xs ys (divs xs) R.to ∧ okS R.to (divs xs).length = true ∧ ∀ X : List Int, X.length = (divs xs).length → okS X (divs xs).length = true → R.cost ≤ csum xs ys (divs xs) X := by
  obtain ⟨z1, z2, gx, gy⟩ := chk_zero he
  obtain ⟨a1, a2⟩ := allC_facts z1 (by omega) gx gy
  obtain ⟨T, hT, ⟨hR, hap⟩, hmin⟩ := bestR_is (fun cs hcs x hx => (a1 cs hcs x hx).1) a2
  obtain ⟨t1, t2⟩ := (mem_tup _ T).1 hT
  have hlen : T.length = (divs xs).length := by rw [t1]; simp [allC]
  have hcho : ∀ (i : Nat) (x : Cc) (f : Nat), T[i]? = some x → (divs xs)[i]? = some f → x = cho xs ys f x.to := by
    intro i x f hx hf
    have h := t2 i x (chos xs ys f) hx (by unfold allC; rw [List.getElem?_map, hf]; rfl)
    obtain ⟨t, _, rfl⟩ := List.mem_map.1 h
    rfl
  have hap' := (apart_iff T []).1 hap
  simp only [hR]
  refine ⟨by rw [List.length_map, hlen], tot_csum _ _ hlen hcho, (okS_iff _ _).2 fun i hi k hk => ?_, fun X hX hok => ?_⟩
  · obtain ⟨x, hx⟩ : ∃ x, T[i]? = some x := ⟨_, List.getElem?_eq_getElem (by omega)⟩
    obtain ⟨y, hy⟩ : ∃ y, T[k]? = some y := ⟨_, List.getElem?_eq_getElem (by omega)⟩
    have e1 : (T.map Cc.to).getD i 0 = x.to := by simp [hx]
    have e2 : (T.map Cc.to).getD k 0 = y.to := by simp [hy]
    rw [e1, e2]
    rcases Int.lt_or_le x.to 0 with h | h
    · exact .inl h
    · exact .inr ((hap' i x hx h).2 k y hk hy)
  · have hz : ∀ (F : List Nat) (X : List Int), X.length = F.length → ∃ T' : List Cc, T'.length = F.length ∧ T'.map Cc.to = X.map (norm ys) ∧ ∀ (i : Nat) (x : Cc) (f : Nat), T'[i]? = some x → F[i]? = some f → x = cho xs ys f x.to := by
      intro F
      induction F with
      | nil => intro X hX; exact ⟨[], rfl, by simp [List.length_eq_zero_iff.1 hX], fun i x f h => by simp at h⟩
      | cons f F ih =>
        intro X hX
        cases X with
        | nil => simp at hX
        | cons t X =>
          obtain ⟨T', h1, h2, h3⟩ := ih X (by simpa using hX)
          refine ⟨cho xs ys f (norm ys t) :: T', by simp [h1], by rw [List.map_cons, List.map_cons, h2]; rfl, fun i x g hx hg => ?_⟩
          cases i with
          | zero =>
            simp at hx hg
            subst hx hg
            rfl
          | succ i => exact h3 i x g (by simpa using hx) (by simpa using hg)
    obtain ⟨T', h1, h2, h3⟩ := hz (divs xs) X hX
    have hsum := tot_csum (divs xs) T' h1 h3
    rw [h2, csum_norm gy] at hsum
    rw [← hsum]
    refine hmin T' ((mem_tup _ T').2 ⟨by rw [h1]; simp [allC], fun i x cs hx hcs => ?_⟩) ((apart_iff T' []).2 fun i x hx h0 => ⟨by simp, fun k y hk hy e => ?_⟩)
    · unfold allC at hcs
      rw [List.getElem?_map] at hcs
      obtain ⟨f, hf, rfl⟩ := Option.map_eq_some_iff.1 hcs
      rw [h3 i x f hx hf]
      refine List.mem_map.2 ⟨x.to, ?_, rfl⟩
      have e : (T'.map Cc.to)[i]? = some x.to := by rw [List.getElem?_map, hx]; rfl
      rw [h2, List.getElem?_map] at e
      obtain ⟨t, _, ht⟩ := Option.map_eq_some_iff.1 e
      rw [← ht]
      exact norm_mem ys t
    · have ex : (T'.map Cc.to)[i]? = some x.to := by rw [List.getElem?_map, hx]; rfl
      have ey : (T'.map Cc.to)[k]? = some y.to := by rw [List.getElem?_map, hy]; rfl
      rw [h2, List.getElem?_map] at ex ey
      obtain ⟨t, ht, htx⟩ := Option.map_eq_some_iff.1 ex
      obtain ⟨u, hu, huy⟩ := Option.map_eq_some_iff.1 ey
      have n1 := norm_nn (by rw [htx]; exact h0 : 0 ≤ norm ys t)
      have n2 := norm_nn (by rw [huy, ← e]; exact h0 : 0 ≤ norm ys u)
      have hi : i < (divs xs).length := by rw [← h1]; exact (List.getElem?_eq_some_iff.1 hx).1
      have hh := (okS_iff X _).1 hok i hi k hk
      have g1 : X.getD i 0 = t := by simp [ht]
      have g2 : X.getD k 0 = u := by simp [hu]
      rw [g1, g2] at hh
      rw [← n1, ← n2, htx, huy] at hh
      omega
theorem best_mono {xs ys : List Vc} {m : Int} (he : chk xs ys 14 = 0) (hm : 0 ≤ m ∧ m ≤ 13) : (bestV xs ys m).2.2 = 0 ∧ (bestV xs ys (m + 1)).2.2 = 0 ∧ (bestV xs ys (m + 1)).2.1 ≤ (bestV xs ys m).2.1 := by
  have h0 : ∀ k, 0 ≤ k → k ≤ 14 → (bestV xs ys k).2.2 = 0 := fun k h1 h2 => by
    unfold bestV
    rw [if_neg (by omega), if_neg (by omega)]
  have e1 := h0 m hm.1 (by omega)
  have e2 := h0 (m + 1) (by omega) (by omega)
  refine ⟨e1, e2, ?_⟩
  rcases hb : bestV xs ys m with ⟨o, c, e⟩
  rcases hb' : bestV xs ys (m + 1) with ⟨o', c', e'⟩
  rw [hb] at e1
  rw [hb'] at e2
  replace e1 : e = 0 := e1
  replace e2 : e' = 0 := e2
  subst e1 e2
  obtain ⟨_, _, _, h1, h2, h3, _⟩ := best_facts hb
  obtain ⟨_, _, _, _, _, _, h4⟩ := best_facts hb'
  have := h4 o h2 (by omega)
  show c' ≤ c
  omega
end Go.Proofs.Ytfflhlmnfhfcgaa

namespace Go.Kq
open Go.RowKit

/-- Facts that outlive calls. -/
def Stab (F : Nat → World → Value → Prop) : Prop := ∀ i u w w', Kp No w w' → F i w u → F i w' u
/-- The world while a region runs that only calls and reads: F i w u is said of the result u of operation i. -/
structure HvW (base : World) (F : Nat → World → Value → Prop) (r : Nat → Option Value) (w : World) : Prop where
  kp : Kp No base w
  hv : ∀ i u, r i = some u → F i w u
section
variable {base w w' : World} {F : Nat → World → Value → Prop} {r : Nat → Option Value}
theorem HvW.start (base : World) (F : Nat → World → Value → Prop) : HvW base F (fun _ => none) base.drew := ⟨Kp.drew _ _, fun _ _ h => (by cases h)⟩
theorem HvW.upd (h : HvW base F r w) (i : Nat) (v : Value) (hf : F i w v) : HvW base F (Kq.upd r i v) w :=
  ⟨h.kp, fun j u hu => by
    by_cases e : j = i
    · subst e
      rw [upd_same] at hu
      cases hu
      exact hf
    · rw [upd_ne _ _ e] at hu
      exact h.hv j u hu⟩
theorem HvW.call (h : HvW base F r w) (hF : Stab F) (k : Kp No w w') : HvW base F r w' := ⟨h.kp.tr k, fun i u hu => hF i u w w' k (h.hv i u hu)⟩
end
/-- The same with one store into block B: operation st stores what operation src gave. -/
structure HvS (base : World) (B : Nat) (t : TypeId) (zero : Array Value) (st src : Nat) (F : Nat → World → Value → Prop) (r : Nat → Option Value) (w : World) : Prop where
  kp : Kp (One B) base w
  b0 : r st = none → w.heap[B]? = some (.cells zero t (0, 0))
  b1 : r st ≠ none → ∃ cs, r src = some (.agg cs) ∧ w.heap[B]? = some (.cells cs t (0, 0))
  hv : ∀ i u, r i = some u → F i w u
section
variable {base w w' : World} {B : Nat} {t : TypeId} {zero : Array Value} {st src : Nat} {F : Nat → World → Value → Prop} {r : Nat → Option Value}
theorem HvS.start (h : base.heap[B]? = some (.cells zero t (0, 0))) : HvS base B t zero st src F (fun _ => none) base.drew := ⟨Kp.drew _ _, fun _ => h, fun h => absurd rfl h, fun _ _ h => (by cases h)⟩
theorem HvS.upd (h : HvS base B t zero st src F r w) (i : Nat) (v : Value) (hr : r i = none) (hi : i ≠ st) (hf : F i w v) : HvS base B t zero st src F (Kq.upd r i v) w := by
  have e1 : Kq.upd r i v st = r st := upd_ne _ _ (fun e => hi e.symm)
  refine ⟨h.kp, by rw [e1]; exact h.b0, fun hs => ?_, fun j u hu => ?_⟩
  · rw [e1] at hs
    obtain ⟨cs, h1, h2⟩ := h.b1 hs
    exact ⟨cs, by rw [upd_ne _ _ (fun e => by rw [e, hr] at h1; cases h1)]; exact h1, h2⟩
  · by_cases e : j = i
    · subst e
      rw [upd_same] at hu
      cases hu
      exact hf
    · rw [upd_ne _ _ e] at hu
      exact h.hv j u hu
theorem HvS.call (h : HvS base B t zero st src F r w) (hF : Stab F) (k : Kp No w w') : HvS base B t zero st src F r w' :=
  ⟨h.kp.no k, fun hs => k.heap (h.b0 hs) id, fun hs => by
    obtain ⟨cs, h1, h2⟩ := h.b1 hs
    exact ⟨cs, h1, k.heap h2 id⟩, fun i u hu => hF i u w w' k (h.hv i u hu)⟩
theorem HvS.store (h : HvS base B t zero st src F r w) (hF : ∀ i u w w', Kp (One B) w w' → F i w u → F i w' u) (hne : src ≠ st) {cs : Array Value} (hu : r src = some (.agg cs)) (hk : Kp (One B) w w') (hh : w'.heap[B]? = some (.cells cs t (0, 0))) (v : Value) (hf : F st w' v) :
    HvS base B t zero st src F (Kq.upd r st v) w' := by
  refine ⟨h.kp.tr hk, fun hs => ?_, fun _ => ⟨cs, by rw [upd_ne _ _ hne]; exact hu, hh⟩, fun j u hj => ?_⟩
  · rw [upd_same] at hs
    cases hs
  · by_cases e : j = st
    · subst e
      rw [upd_same] at hj
      cases hj
      exact hf
    · rw [upd_ne _ _ e] at hj
      exact hF j u w w' hk (h.hv j u hj)
end
section
variable {P : Program} {Q : Exit → Act → World → Prop} {l : List Oper} {i j : Nat} {o x : Oper} {t : Tmp} {want : Bool} {a : Act} {w : World} {K : Act → World → Prop}
/-- An operation whose guard was itself passed over. -/
theorem wpOp_skipU (ho : l[i]? = some o) (hg : o.guard = some (j, want)) (hj : l[j]? = some x) (hx : x.dst = some t) (hv : a.tmps.getD t undef = undef) (h : K (a.put o.dst undef) w) : wpOp P l.toArray Q i K a w := by
  unfold wpOp
  have h2 : l.toArray[i]? = some o := by simpa using ho
  have h4 : l.toArray[j]? = some x := by simpa using hj
  rw [h2]
  have h3 : Region.wanted o (yielded l.toArray a.tmps) = false := by
    unfold Region.wanted
    simp only [hg]
    unfold yielded
    rw [h4]
    simp only [Option.bind_some, hx]
    cases h5 : a.tmps[t]? with
    | none => simp
    | some u =>
      rw [Array.getD_eq_getD_getElem?, h5] at hv
      simp at hv
      subst hv
      rfl
  simp only [h3]
  exact h
end
end Go.Kq
