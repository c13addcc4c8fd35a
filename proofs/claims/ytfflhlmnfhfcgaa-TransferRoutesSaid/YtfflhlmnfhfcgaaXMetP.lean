/- Chapter 33: the cost is a metric on profiles: plain. -/
import Derived.Test.YtfflhlmnfhfcgaaXLco
namespace Go.Proofs.Ytfflhlmnfhfcgaa
open Go.RowKit Go.Kq

/-- The power of a list at a key. -/
def pw (xs : List Vc) (k : Key) : Int := tot (fun v => if v.key = k then v.q else 0) xs
theorem bal_pw (xs ys : List Vc) (k : Key) : bal (btw xs ys) k = pw xs k - pw ys k := by
  rw [bal_btw]
  have h1 := bal_addAll 1 k xs []
  show bal (addAll 1 [] xs) k - _ = _
  rw [h1]
  unfold pw
  simp [bal, get1]
theorem keys_ins_eq {κ ν μ : Type} [DecidableEq κ] (k : κ) (v : ν) (u : μ) : ∀ (E : List (κ × ν)) (F : List (κ × μ)), keys E = keys F → keys (ins k v E) = keys (ins k u F)
  | [], [], _ => rfl
  | [], _ :: _, h => by simp [keys] at h
  | _ :: _, [], h => by simp [keys] at h
  | p :: E, q :: F, h => by
    simp only [keys, List.map_cons, List.cons.injEq] at h
    have ih := keys_ins_eq k v u E F h.2
    unfold ins
    rw [h.1]
    split
    · simp only [keys, List.map_cons, List.cons.injEq, true_and]
      exact h.2
    · simp only [keys, List.map_cons, List.cons.injEq] at ih ⊢
      exact ⟨h.1, ih⟩
theorem keys_pm (g h : Key → Int) : ∀ S, keys (pm g S) = keys (pm h S)
  | [] => rfl
  | _ :: S => keys_ins_eq _ _ _ _ _ (keys_pm g h S)
theorem keys_dm (g h : Key → Int) : ∀ S, keys (dm g S) = keys (dm h S)
  | [] => rfl
  | _ :: S => keys_ins_eq _ _ _ _ _ (keys_dm g h S)
theorem absI_add (a b : Int) : absI (a + b) ≤ absI a + absI b := by
  unfold absI
  (repeat' split) <;> omega
theorem absI_nn (a : Int) : 0 ≤ absI a := by unfold absI; split <;> omega
theorem absI_sym (a : Int) : absI (-a) = absI a := by
  unfold absI
  (repeat' split) <;> omega
theorem absI_zero {a : Int} (h : absI a = 0) : a = 0 := by
  unfold absI at h
  split at h <;> omega
theorem tot_add {α : Type} (f g : α → Int) : ∀ l : List α, tot (fun x => f x + g x) l = tot f l + tot g l
  | [] => rfl
  | x :: l => by rw [tot_cons, tot_cons, tot_cons, tot_add f g l]; omega
theorem tot_le {α : Type} {f g : α → Int} : ∀ l : List α, (∀ x ∈ l, f x ≤ g x) → tot f l ≤ tot g l
  | [], _ => Int.le_refl _
  | x :: l, h => by
    have h1 := h x (by simp)
    have h2 := tot_le l fun y hy => h y (by simp [hy])
    rw [tot_cons, tot_cons]
    omega
theorem tot_nn {α : Type} {f : α → Int} (l : List α) (h : ∀ x ∈ l, 0 ≤ f x) : 0 ≤ tot f l := by
  have := tot_le (f := fun _ => 0) (g := f) l h
  rwa [tot_zero (fun _ : α => (0 : Int)) l fun _ _ => rfl] at this
theorem tot_neg' {α : Type} (f : α → Int) : ∀ l : List α, tot (fun x => - f x) l = - tot f l
  | [] => rfl
  | x :: l => by rw [tot_cons, tot_cons, tot_neg' f l]; omega
theorem tot_if {α : Type} (p : α → Prop) [DecidablePred p] (f g : α → Int) (l : List α) : tot (fun k => if p k then f k + g k else 0) l = tot (fun k => if p k then f k else 0) l + tot (fun k => if p k then g k else 0) l := by
  rw [← tot_add]
  exact tot_congr l fun x _ => by split <;> simp

/-! ### the metric -/
theorem canon_add (g h : Key → Int) (U : List Key) : canon (fun k => g k + h k) U ≤ canon g U + canon h U := by
  unfold canon
  rw [keys_pm (fun k => g k + h k) g U, keys_pm h g U, keys_dm (fun k => g k + h k) g U, keys_dm h g U]
  have h1 : tot (fun k => absI (g k + h k)) U ≤ tot (fun k => absI (g k)) U + tot (fun k => absI (h k)) U := by
    rw [← tot_add]
    exact tot_le U fun k _ => absI_add _ _
  have h2 : tot (fun j => absI (tot (fun k => if up k = j then g k + h k else 0) U)) (keys (pm g U)) ≤ tot (fun j => absI (tot (fun k => if up k = j then g k else 0) U)) (keys (pm g U)) + tot (fun j => absI (tot (fun k => if up k = j then h k else 0) U)) (keys (pm g U)) := by
    rw [← tot_add]
    exact tot_le _ fun j _ => by rw [tot_if]; exact absI_add _ _
  have h3 : tot (fun j => absI (tot (fun k => if k.1 = j then g k + h k else 0) U)) (keys (dm g U)) ≤ tot (fun j => absI (tot (fun k => if k.1 = j then g k else 0) U)) (keys (dm g U)) + tot (fun j => absI (tot (fun k => if k.1 = j then h k else 0) U)) (keys (dm g U)) := by
    rw [← tot_add]
    exact tot_le _ fun j _ => by rw [tot_if]; exact absI_add _ _
  show tot (fun k => absI (g k + h k)) U + 2 * tot (fun j => absI (tot (fun k => if up k = j then g k + h k else 0) U)) (keys (pm g U)) + 4 * tot (fun j => absI (tot (fun k => if k.1 = j then g k + h k else 0) U)) (keys (dm g U)) ≤ _
  omega
theorem canon_neg (g : Key → Int) (U : List Key) : canon (fun k => - g k) U = canon g U := by
  have hi : ∀ (p : Key → Prop) [DecidablePred p], tot (fun k => if p k then - g k else 0) U = - tot (fun k => if p k then g k else 0) U := fun p _ => by
    rw [← tot_neg']
    exact tot_congr U fun k _ => by split <;> simp
  unfold canon
  rw [keys_pm (fun k => - g k) g U, keys_dm (fun k => - g k) g U]
  rw [tot_congr U fun k _ => absI_sym (g k)]
  rw [tot_congr (keys (pm g U)) fun j _ => by rw [hi, absI_sym], tot_congr (keys (dm g U)) fun j _ => by rw [hi, absI_sym]]
/-- Every key is counted once at most. -/
theorem tot_once {α β : Type} [DecidableEq β] (f : α → Int) (hf : ∀ x, 0 ≤ f x) (c : α → β) : ∀ (K : List β), K.Nodup → ∀ U : List α, tot (fun j => tot (fun k => if c k = j then f k else 0) U) K ≤ tot f U := by
  intro K hK U
  induction U with
  | nil =>
    rw [tot_zero (fun j => tot (fun k => if c k = j then f k else 0) []) K fun j _ => rfl]
    exact Int.le_refl _
  | cons x U ih =>
    have e : tot (fun j => tot (fun k => if c k = j then f k else 0) (x :: U)) K = tot (fun j => if c x = j then f x else 0) K + tot (fun j => tot (fun k => if c k = j then f k else 0) U) K := by
      rw [← tot_add]
      exact tot_congr K fun j _ => tot_cons _ _ _
    rw [e, tot_cons]
    have : tot (fun j => if c x = j then f x else 0) K ≤ f x := by
      clear e ih
      induction K with
      | nil => exact hf x
      | cons y K ihK =>
        rw [List.nodup_cons] at hK
        rw [tot_cons]
        by_cases hy : c x = y
        · rw [if_pos hy, tot_zero _ K fun z hz => if_neg fun e => hK.1 (by rw [← hy, e]; exact hz)]
          omega
        · rw [if_neg hy]
          have := ihK hK.2
          omega
    omega
theorem absI_tot {α : Type} (f : α → Int) : ∀ l : List α, absI (tot f l) ≤ tot (fun x => absI (f x)) l
  | [] => by simp [tot, absI]
  | x :: l => by
    have h1 := absI_tot f l
    have h2 := absI_add (f x) (tot f l)
    rw [tot_cons, tot_cons]
    omega
theorem canon_bounds (g : Key → Int) (U : List Key) : tot (fun k => absI (g k)) U ≤ canon g U ∧ canon g U ≤ 7 * tot (fun k => absI (g k)) U := by
  have hp := tot_once (fun k => absI (g k)) (fun k => absI_nn _) up (keys (pm g U)) (pm_nodup g U) U
  have hd := tot_once (fun k => absI (g k)) (fun k => absI_nn _) (fun k : Key => k.1) (keys (dm g U)) (dm_nodup g U) U
  have hp2 : tot (fun j => absI (tot (fun k => if up k = j then g k else 0) U)) (keys (pm g U)) ≤ tot (fun j => tot (fun k => if up k = j then absI (g k) else 0) U) (keys (pm g U)) := tot_le _ fun j _ => by
    refine Int.le_trans (absI_tot _ U) (tot_le U fun k _ => ?_)
    split <;> simp [absI]
  have hd2 : tot (fun j => absI (tot (fun k => if k.1 = j then g k else 0) U)) (keys (dm g U)) ≤ tot (fun j => tot (fun k => if k.1 = j then absI (g k) else 0) U) (keys (dm g U)) := tot_le _ fun j _ => by
    refine Int.le_trans (absI_tot _ U) (tot_le U fun k _ => ?_)
    split <;> simp [absI]
  have n1 : 0 ≤ tot (fun j => absI (tot (fun k => if up k = j then g k else 0) U)) (keys (pm g U)) := tot_nn _ fun _ _ => absI_nn _
  have n2 : 0 ≤ tot (fun j => absI (tot (fun k => if k.1 = j then g k else 0) U)) (keys (dm g U)) := tot_nn _ fun _ _ => absI_nn _
  unfold canon
  omega
theorem tot_zero_mem {α : Type} {f : α → Int} : ∀ {l : List α}, (∀ x ∈ l, 0 ≤ f x) → tot f l = 0 → ∀ x ∈ l, f x = 0
  | y :: l, h, h0, x, hx => by
    rw [tot_cons] at h0
    have h1 := h y (by simp)
    have h2 := tot_nn l fun z hz => h z (by simp [hz])
    rcases List.mem_cons.1 hx with rfl | hx
    · omega
    · exact tot_zero_mem (fun z hz => h z (by simp [hz])) (by omega) x hx
theorem canon_zero {g : Key → Int} {U : List Key} (h : canon g U = 0) : ∀ k ∈ U, g k = 0 := by
  have hb := canon_bounds g U
  have hn : 0 ≤ tot (fun k => absI (g k)) U := tot_nn _ fun _ _ => absI_nn _
  have := tot_zero_mem (f := fun k => absI (g k)) (fun _ _ => absI_nn _) (by omega : tot (fun k => absI (g k)) U = 0)
  exact fun k hk => absI_zero (this k hk)
theorem canon_of_zero {g : Key → Int} {U : List Key} (h : ∀ k ∈ U, g k = 0) : canon g U = 0 := by
  have hb := canon_bounds g U
  have : tot (fun k => absI (g k)) U = 0 := tot_zero _ U fun k hk => by rw [h k hk]; rfl
  omega

/-! ### the cost of lists -/
theorem run_canon {xs ys : List Vc} {U : List Key} (hU : U.Nodup) (hs : ∀ v, v ∈ xs ∨ v ∈ ys → v.key ∈ U) : runC 0 0 0 (dif xs ys) = canon (fun k => pw xs k - pw ys k) U := by
  have hS : Srt (dif xs ys) := addL_srt _ _ (addL_srt _ _ trivial)
  rw [isCost_canon _ _ U hU (fun k hk => ?_) (run_isCost _ hS), bal_dif]
  · congr 1
    funext k
    exact bal_pw xs ys k
  · rw [keys_asE] at hk
    obtain ⟨y, hy, rfl⟩ := List.mem_map.1 hk
    rcases addL_mem _ _ y hy with ⟨x, hx, e⟩ | ⟨v, hv, e⟩
    · rcases addL_mem _ _ x hx with ⟨z, hz, _⟩ | ⟨z, hz, e2⟩
      · cases hz
      · rw [← e, ← e2]
        exact hs z (.inl hz)
    · obtain ⟨u, hu, rfl⟩ := List.mem_map.1 hv
      rw [← e]
      exact hs u (.inr hu)
theorem pw_out {xs : List Vc} {k : Key} (h : ∀ v ∈ xs, v.key ≠ k) : pw xs k = 0 := tot_zero _ xs fun v hv => if_neg (h v hv)
theorem pw_perm {xs ys : List Vc} (h : xs.Perm ys) (k : Key) : pw xs k = pw ys k := by
  unfold pw tot
  induction h with
  | nil => rfl
  | cons x _ ih => simp only [List.map_cons, List.sum_cons]; rw [ih]
  | swap x y l => simp only [List.map_cons, List.sum_cons]; omega
  | trans _ _ h1 h2 => exact h1.trans h2
/-- The sum of powers. -/
def pow (l : List Vc) : Int := tot (fun v => v.q) l
theorem tot_filter {α : Type} (p : α → Bool) (f : α → Int) : ∀ l : List α, tot f (l.filter p) = tot (fun x => if p x = true then f x else 0) l
  | [] => rfl
  | x :: l => by
    rw [List.filter_cons, tot_cons, ← tot_filter p f l]
    split
    · rw [tot_cons]
    · omega
theorem pow_filter {xs ys : List Vc} {U : List Key} (hU : U.Nodup) (hs : ∀ v, v ∈ xs ∨ v ∈ ys → v.key ∈ U) : pow ((dif xs ys).filter fun v => decide (0 < v.q)) = tot (fun k => if 0 < pw xs k - pw ys k then pw xs k - pw ys k else 0) U := by
  have hS : Srt (dif xs ys) := addL_srt _ _ (addL_srt _ _ trivial)
  have hb : ∀ v ∈ dif xs ys, v.q = pw xs v.key - pw ys v.key := fun v hv => by
    rw [← bal_pw, ← bal_dif]
    exact (bal_at _ hS v hv).symm
  unfold pow
  rw [tot_filter, tot_congr (g := fun v => (fun k => if 0 < pw xs k - pw ys k then pw xs k - pw ys k else 0) v.key) (dif xs ys) fun v hv => by rw [hb v hv]; simp, ← tot_map (fun k => if 0 < pw xs k - pw ys k then pw xs k - pw ys k else 0) Vc.key]
  refine tot_sub _ _ U (srt_nodup _ hS) (fun k hk => ?_) hU fun k _ hk => ?_
  · obtain ⟨y, hy, rfl⟩ := List.mem_map.1 hk
    rcases addL_mem _ _ y hy with ⟨x, hx, e⟩ | ⟨v, hv, e⟩
    · rcases addL_mem _ _ x hx with ⟨z, hz, _⟩ | ⟨z, hz, e2⟩
      · cases hz
      · rw [← e, ← e2]
        exact hs z (.inl hz)
    · obtain ⟨u, hu, rfl⟩ := List.mem_map.1 hv
      rw [← e]
      exact hs u (.inr hu)
  · have : bal (asE (dif xs ys)) k = 0 := bal_out _ _ fun v hv e => hk (List.mem_map.2 ⟨v, hv, e⟩)
    rw [bal_dif, bal_pw] at this
    rw [this]
    rfl
theorem dif_ext {xs ys : List Vc} (hx : ∀ v ∈ xs, 0 < v.q) (hy : ∀ v ∈ ys, 0 < v.q) : dif xs [] = dif ys [] ↔ ∀ k, pw xs k = pw ys k := by
  have hS : ∀ zs, Srt (dif zs []) := fun zs => addL_srt _ _ (addL_srt _ _ trivial)
  have hp : ∀ zs : List Vc, (∀ v ∈ zs, 0 < v.q) → ∀ v ∈ dif zs [], 0 < v.q := fun zs hz v hv => addL_pos zs [] hz (fun v hv => by cases hv) v (by simpa [dif, addL] using hv)
  have hb : ∀ zs k, bal (asE (dif zs [])) k = pw zs k := fun zs k => by
    rw [bal_dif, bal_pw]
    simp [pw, tot]
  constructor
  · intro h k
    rw [← hb xs, ← hb ys, h]
  · intro h
    have one : ∀ zs us : List Vc, (∀ v ∈ zs, 0 < v.q) → (∀ k, pw zs k = pw us k) → ∀ v ∈ dif zs [], v ∈ dif us [] := fun zs us hz he v hv => by
      have h1 := bal_at _ (hS zs) v hv
      have h2 := hp zs hz v hv
      rw [hb, he, ← hb] at h1
      have h3 := bal_pos_mem (E := asE (dif us [])) (k := v.key) (by rw [h1]; exact h2)
      rw [keys_asE] at h3
      obtain ⟨u, hu, e⟩ := List.mem_map.1 h3
      have h4 := bal_at _ (hS us) u hu
      rw [e, h1] at h4
      have : u = v := by
        obtain ⟨a, b, c, d⟩ := u
        obtain ⟨a', b', c', d'⟩ := v
        unfold Vc.key at e
        simp only [Prod.mk.injEq] at e h4
        obtain ⟨rfl, rfl, rfl⟩ := e
        rw [h4]
      exact this ▸ hu
    exact bef_ext (srt_pair _ (hS xs)) (srt_pair _ (hS ys)) fun v => ⟨one xs ys hx h v, one ys xs hy (fun k => (h k).symm) v⟩
end Go.Proofs.Ytfflhlmnfhfcgaa
