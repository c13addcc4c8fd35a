/- Chapter 33: the reference's sorted lists of cells, and their cost: plain laws. -/
import Derived.Test.YtfflhlmnfhfcgaaXPl
namespace Go.Proofs.Ytfflhlmnfhfcgaa
open Go.RowKit Go.Kq

/-- One cell comes before another. -/
def Bef (a b : Vc) : Prop := a.d < b.d ∨ (a.d = b.d ∧ (a.p < b.p ∨ (a.p = b.p ∧ a.f < b.f)))
instance (a b : Vc) : Decidable (Bef a b) := by unfold Bef; infer_instance
def addC (c : Vc) : List Vc → List Vc
  | [] => [c]
  | x :: l => if Bef x c then x :: addC c l else if Bef c x then c :: x :: l else ⟨x.d, x.p, x.f, x.q + c.q⟩ :: l
def Srt : List Vc → Prop
  | [] => True
  | x :: l => (∀ y ∈ l, Bef x y) ∧ Srt l
def asE (l : List Vc) : List (Key × Int) := l.map fun v => (v.key, v.q)
theorem bef_trans {a b c : Vc} (h1 : Bef a b) (h2 : Bef b c) : Bef a c := by unfold Bef at *; omega
theorem bef_eq {a b : Vc} (h1 : ¬ Bef a b) (h2 : ¬ Bef b a) : a.key = b.key := by
  unfold Bef at h1 h2
  unfold Vc.key
  rw [show a.d = b.d by omega, show a.p = b.p by omega, show a.f = b.f by omega]
theorem bef_ne {a b : Vc} (h : Bef a b) : a.key ≠ b.key := by
  intro e
  unfold Vc.key at e
  simp only [Prod.mk.injEq] at e
  unfold Bef at h
  omega
theorem addC_mem (c : Vc) : ∀ (l : List Vc) (y : Vc), y ∈ addC c l → y.key = c.key ∨ ∃ x ∈ l, x.key = y.key
  | [], y, h => by
    simp [addC] at h
    exact .inl (by rw [h])
  | x :: l, y, h => by
    unfold addC at h
    split at h
    · rcases List.mem_cons.1 h with rfl | h
      · exact .inr ⟨y, by simp, rfl⟩
      · rcases addC_mem c l y h with h | ⟨z, hz, e⟩
        · exact .inl h
        · exact .inr ⟨z, by simp [hz], e⟩
    · split at h
      · rcases List.mem_cons.1 h with rfl | h
        · exact .inl rfl
        · exact .inr ⟨y, h, rfl⟩
      · rcases List.mem_cons.1 h with rfl | h
        · exact .inr ⟨x, by simp, rfl⟩
        · exact .inr ⟨y, by simp [h], rfl⟩
theorem bef_key {a b c : Vc} (h : b.key = c.key) (h1 : Bef a b) : Bef a c := by
  unfold Vc.key at h
  simp only [Prod.mk.injEq] at h
  unfold Bef at *
  omega
theorem bef_key' {a b c : Vc} (h : b.key = c.key) (h1 : Bef b a) : Bef c a := by
  unfold Vc.key at h
  simp only [Prod.mk.injEq] at h
  unfold Bef at *
  omega
theorem addC_srt (c : Vc) : ∀ l, Srt l → Srt (addC c l)
  | [], _ => ⟨fun y h => by simp at h, trivial⟩
  | x :: l, h => by
    unfold addC
    split
    · rename_i hb
      refine ⟨fun y hy => ?_, addC_srt c l h.2⟩
      rcases addC_mem c l y hy with e | ⟨z, hz, e⟩
      · exact bef_key e.symm hb
      · exact bef_key e (h.1 z hz)
    · split
      · rename_i hb
        refine ⟨fun y hy => ?_, h⟩
        rcases List.mem_cons.1 hy with rfl | hy
        · exact hb
        · exact bef_trans hb (h.1 y hy)
      · exact ⟨fun y hy => bef_key' (b := x) rfl (h.1 y hy), h.2⟩
theorem bal_nil (k : Key) : bal [] k = 0 := rfl
theorem bal_cons (p : Key × Int) (E : List (Key × Int)) (k : Key) : bal (p :: E) k = if p.1 = k then p.2 else bal E k := by
  unfold bal
  rw [get1_cons]
  split <;> rfl
theorem bal_out (l : List Vc) (k : Key) (h : ∀ v ∈ l, v.key ≠ k) : bal (asE l) k = 0 := by
  have : get1 (asE l) k = none := (get1_none_iff _ _).2 fun hm => by
    simp only [asE, keys, List.map_map, List.mem_map] at hm
    obtain ⟨v, hv, e⟩ := hm
    exact h v hv e
  simp [bal, this]
theorem bal_addC (c : Vc) (k : Key) : ∀ l, Srt l → bal (asE (addC c l)) k = bal (asE l) k + if c.key = k then c.q else 0
  | [], _ => by
    simp only [addC, asE, List.map_cons, List.map_nil, bal_cons, bal_nil]
    split <;> omega
  | x :: l, h => by
    have ih := bal_addC c k l h.2
    unfold addC
    split
    · rename_i hb
      have e1 : asE (x :: addC c l) = (x.key, x.q) :: asE (addC c l) := rfl
      have e2 : asE (x :: l) = (x.key, x.q) :: asE l := rfl
      rw [e1, e2, bal_cons, bal_cons, ih]
      by_cases hx : x.key = k
      · have : ¬ c.key = k := fun e => bef_ne hb (hx.trans e.symm)
        simp [hx, this]
      · simp [hx]
    · rename_i hb
      split
      · rename_i hb2
        have e1 : asE (c :: x :: l) = (c.key, c.q) :: asE (x :: l) := rfl
        rw [e1, bal_cons]
        by_cases hc : c.key = k
        · have : bal (asE (x :: l)) k = 0 := bal_out _ _ fun v hv e => by
            rcases List.mem_cons.1 hv with rfl | hv
            · exact bef_ne hb2 (hc.trans e.symm)
            · exact bef_ne (bef_trans hb2 (h.1 v hv)) (hc.trans e.symm)
          simp [hc, this]
        · simp [hc]
      · rename_i hb2
        have e := bef_eq hb hb2
        have e1 : asE ((⟨x.d, x.p, x.f, x.q + c.q⟩ : Vc) :: l) = (x.key, x.q + c.q) :: asE l := rfl
        have e2 : asE (x :: l) = (x.key, x.q) :: asE l := rfl
        rw [e1, e2, bal_cons, bal_cons, ← e]
        by_cases hx : x.key = k
        · simp [hx]
        · simp [hx]
/-- What the reference makes of two lists. -/
def neg (v : Vc) : Vc := ⟨v.d, v.p, v.f, -v.q⟩
def addL (l vs : List Vc) : List Vc := vs.foldl (fun l c => addC c l) l
def dif (xs ys : List Vc) : List Vc := addL (addL [] xs) (ys.map neg)
theorem addL_srt : ∀ (vs l : List Vc), Srt l → Srt (addL l vs)
  | [], _, h => h
  | v :: vs, l, h => addL_srt vs (addC v l) (addC_srt v l h)
theorem bal_addL (k : Key) : ∀ (vs l : List Vc), Srt l → bal (asE (addL l vs)) k = bal (asE l) k + tot (fun v => if v.key = k then v.q else 0) vs
  | [], l, _ => by simp [addL, tot]
  | v :: vs, l, h => by
    have := bal_addL k vs (addC v l) (addC_srt v l h)
    simp only [addL, List.foldl_cons] at this ⊢
    rw [this, bal_addC v k l h, tot_cons]
    omega
theorem addL_mem : ∀ (vs l : List Vc) (y : Vc), y ∈ addL l vs → (∃ x ∈ l, x.key = y.key) ∨ ∃ v ∈ vs, v.key = y.key
  | [], l, y, h => .inl ⟨y, h, rfl⟩
  | v :: vs, l, y, h => by
    rcases addL_mem vs (addC v l) y h with ⟨x, hx, e⟩ | ⟨u, hu, e⟩
    · rcases addC_mem v l x hx with e2 | ⟨z, hz, e2⟩
      · exact .inr ⟨v, by simp, e2.symm.trans e⟩
      · exact .inl ⟨z, hz, e2.trans e⟩
    · exact .inr ⟨u, by simp [hu], e⟩
theorem tot_neg (k : Key) : ∀ ys : List Vc, tot (fun v : Vc => if v.key = k then v.q else 0) (ys.map neg) = - tot (fun v => if v.key = k then v.q else 0) ys
  | [] => rfl
  | y :: ys => by
    have e : (neg y).key = y.key := rfl
    have e2 : (neg y).q = - y.q := rfl
    rw [List.map_cons, tot_cons, tot_cons, tot_neg k ys, e, e2]
    split <;> omega
theorem bal_dif (xs ys : List Vc) : bal (asE (dif xs ys)) = bal (btw xs ys) := funext fun k => by
  have h1 := bal_addL k (ys.map neg) (addL [] xs) (addL_srt xs [] trivial)
  have h2 := bal_addL k xs [] trivial
  have h3 := bal_btw xs ys k
  have h4 := bal_addAll 1 k xs []
  have h5 : bal (btw xs []) k = bal (addAll 1 [] xs) k := rfl
  rw [tot_neg] at h1
  have h6 : bal (asE []) k = 0 := rfl
  have h7 : bal [] k = 0 := rfl
  show bal (asE (addL (addL [] xs) (ys.map neg))) k = _
  omega

/-! ### the sums over a sorted list -/
def runC : Int → Int → Int → List Vc → Int
  | s, _, _, [] => s
  | s, p, d, [x] => s + absI x.q + 2 * absI (p + x.q) + 4 * absI (d + x.q)
  | s, p, d, x :: y :: l =>
    if y.d ≠ x.d then runC (s + absI x.q + 2 * absI (p + x.q) + 4 * absI (d + x.q)) 0 0 (y :: l)
    else if y.p ≠ x.p then runC (s + absI x.q + 2 * absI (p + x.q)) 0 (d + x.q) (y :: l)
    else runC (s + absI x.q) (p + x.q) (d + x.q) (y :: l)
def PL : List Vc → List Key
  | [] => []
  | x :: l => if up x.key ∈ PL l then PL l else up x.key :: PL l
def DL : List Vc → List Int
  | [] => []
  | x :: l => if x.d ∈ DL l then DL l else x.d :: DL l
theorem mem_PL (j : Key) : ∀ l : List Vc, j ∈ PL l ↔ ∃ v ∈ l, up v.key = j
  | [] => by simp [PL]
  | x :: l => by
    have ih := mem_PL j l
    unfold PL
    split
    · rename_i h
      rw [ih]
      constructor
      · rintro ⟨v, hv, e⟩
        exact ⟨v, by simp [hv], e⟩
      · rintro ⟨v, hv, e⟩
        rcases List.mem_cons.1 hv with rfl | hv
        · rw [← e]
          exact (mem_PL _ l).1 h
        · exact ⟨v, hv, e⟩
    · rw [List.mem_cons, ih]
      constructor
      · rintro (h | ⟨v, hv, e⟩)
        · exact ⟨x, by simp, h.symm⟩
        · exact ⟨v, by simp [hv], e⟩
      · rintro ⟨v, hv, e⟩
        rcases List.mem_cons.1 hv with rfl | hv
        · exact .inl e.symm
        · exact .inr ⟨v, hv, e⟩
theorem mem_DL (j : Int) : ∀ l : List Vc, j ∈ DL l ↔ ∃ v ∈ l, v.d = j
  | [] => by simp [DL]
  | x :: l => by
    have ih := mem_DL j l
    unfold DL
    split
    · rename_i h
      rw [ih]
      constructor
      · rintro ⟨v, hv, e⟩
        exact ⟨v, by simp [hv], e⟩
      · rintro ⟨v, hv, e⟩
        rcases List.mem_cons.1 hv with rfl | hv
        · rw [← e]
          exact (mem_DL _ l).1 h
        · exact ⟨v, hv, e⟩
    · rw [List.mem_cons, ih]
      constructor
      · rintro (h | ⟨v, hv, e⟩)
        · exact ⟨x, by simp, h.symm⟩
        · exact ⟨v, by simp [hv], e⟩
      · rintro ⟨v, hv, e⟩
        rcases List.mem_cons.1 hv with rfl | hv
        · exact .inl e.symm
        · exact .inr ⟨v, hv, e⟩
theorem PL_nodup : ∀ l, (PL l).Nodup
  | [] => List.nodup_nil
  | x :: l => by
    unfold PL
    split
    · exact PL_nodup l
    · rename_i h
      exact List.nodup_cons.2 ⟨h, PL_nodup l⟩
theorem DL_nodup : ∀ l, (DL l).Nodup
  | [] => List.nodup_nil
  | x :: l => by
    unfold DL
    split
    · exact DL_nodup l
    · rename_i h
      exact List.nodup_cons.2 ⟨h, DL_nodup l⟩
def sumP (l : List Vc) (j : Key) : Int := tot (fun v => if up v.key = j then v.q else 0) l
def sumD (l : List Vc) (j : Int) : Int := tot (fun v => if v.d = j then v.q else 0) l
theorem sumP_out (l : List Vc) (j : Key) (h : ∀ v ∈ l, up v.key ≠ j) : sumP l j = 0 := tot_zero _ l fun v hv => if_neg (h v hv)
theorem sumD_out (l : List Vc) (j : Int) (h : ∀ v ∈ l, v.d ≠ j) : sumD l j = 0 := tot_zero _ l fun v hv => if_neg (h v hv)
theorem up_eq {a b : Vc} : up a.key = up b.key ↔ a.d = b.d ∧ a.p = b.p := by
  unfold up Vc.key
  simp
theorem tot_first {α : Type} [DecidableEq α] (f g : α → Int) (j : α) (l : List α) (h : j ∉ l) (hfg : ∀ x, x ≠ j → f x = g x) : tot f (j :: l) = f j + tot g l := by
  rw [tot_cons, tot_congr l fun x hx => hfg x fun e => h (e ▸ hx)]
theorem run_eq : ∀ (l : List Vc) (x : Vc) (s p d : Int), Srt (x :: l) →
    runC s p d (x :: l) = s + tot (fun v => absI v.q) (x :: l) + 2 * tot (fun j => absI ((if up x.key = j then p else 0) + sumP (x :: l) j)) (PL (x :: l)) + 4 * tot (fun j => absI ((if x.d = j then d else 0) + sumD (x :: l) j)) (DL (x :: l))
  | [], x, s, p, d, _ => by
    simp [runC, PL, DL, tot, sumP, sumD]
  | y :: l, x, s, p, d, h => by
    have hxy := h.1 y (by simp)
    have ih := fun s p d => run_eq l y s p d h.2
    have tq : tot (fun v : Vc => absI v.q) (x :: y :: l) = absI x.q + tot (fun v : Vc => absI v.q) (y :: l) := tot_cons _ _ _
    have sP : ∀ j, sumP (x :: y :: l) j = (if up x.key = j then x.q else 0) + sumP (y :: l) j := fun j => tot_cons _ _ _
    have sD : ∀ j, sumD (x :: y :: l) j = (if x.d = j then x.q else 0) + sumD (y :: l) j := fun j => tot_cons _ _ _
    have sameP : up y.key = up x.key → tot (fun j => absI ((if up x.key = j then p else 0) + sumP (x :: y :: l) j)) (PL (x :: y :: l)) = tot (fun j => absI ((if up y.key = j then p + x.q else 0) + sumP (y :: l) j)) (PL (y :: l)) := fun e => by
      have hm : up x.key ∈ PL (y :: l) := (mem_PL _ _).2 ⟨y, by simp, e⟩
      have hP : PL (x :: y :: l) = PL (y :: l) := by rw [PL, if_pos hm]
      rw [hP]
      refine tot_congr _ fun j _ => ?_
      rw [sP, e]
      congr 1
      split <;> omega
    have newP : up y.key ≠ up x.key → tot (fun j => absI ((if up x.key = j then p else 0) + sumP (x :: y :: l) j)) (PL (x :: y :: l)) = absI (p + x.q) + tot (fun j => absI ((if up y.key = j then 0 else 0) + sumP (y :: l) j)) (PL (y :: l)) := fun e => by
      have out : ∀ v ∈ y :: l, up v.key ≠ up x.key := fun v hv e2 => by
        rw [up_eq] at e2
        rw [Ne, up_eq] at e
        have h1 := h.1 v hv
        rcases List.mem_cons.1 hv with rfl | hv'
        · exact e e2
        · have h2 := h.2.1 v hv'
          unfold Bef at h1 h2 hxy
          omega
      have hm : up x.key ∉ PL (y :: l) := fun hm => by
        obtain ⟨v, hv, e2⟩ := (mem_PL _ _).1 hm
        exact out v hv e2
      have hP : PL (x :: y :: l) = up x.key :: PL (y :: l) := by rw [PL, if_neg hm]
      rw [hP, tot_first _ (fun j => absI ((if up y.key = j then 0 else 0) + sumP (y :: l) j)) _ _ hm fun j hj => ?_]
      · rw [sP, sumP_out _ _ out]
        simp
      · rw [sP, if_neg fun e => hj e.symm, if_neg fun e => hj e.symm]
        simp
    have sameD : y.d = x.d → tot (fun j => absI ((if x.d = j then d else 0) + sumD (x :: y :: l) j)) (DL (x :: y :: l)) = tot (fun j => absI ((if y.d = j then d + x.q else 0) + sumD (y :: l) j)) (DL (y :: l)) := fun e => by
      have hm : x.d ∈ DL (y :: l) := (mem_DL _ _).2 ⟨y, by simp, e⟩
      have hP : DL (x :: y :: l) = DL (y :: l) := by rw [DL, if_pos hm]
      rw [hP]
      refine tot_congr _ fun j _ => ?_
      rw [sD, e]
      congr 1
      split <;> omega
    have newD : y.d ≠ x.d → tot (fun j => absI ((if x.d = j then d else 0) + sumD (x :: y :: l) j)) (DL (x :: y :: l)) = absI (d + x.q) + tot (fun j => absI ((if y.d = j then 0 else 0) + sumD (y :: l) j)) (DL (y :: l)) := fun e => by
      have out : ∀ v ∈ y :: l, v.d ≠ x.d := fun v hv e2 => by
        have h1 := h.1 v hv
        rcases List.mem_cons.1 hv with rfl | hv'
        · exact e e2
        · have h2 := h.2.1 v hv'
          unfold Bef at h1 h2 hxy
          omega
      have hm : x.d ∉ DL (y :: l) := fun hm => by
        obtain ⟨v, hv, e2⟩ := (mem_DL _ _).1 hm
        exact out v hv e2
      have hP : DL (x :: y :: l) = x.d :: DL (y :: l) := by rw [DL, if_neg hm]
      rw [hP, tot_first _ (fun j => absI ((if y.d = j then 0 else 0) + sumD (y :: l) j)) _ _ hm fun j hj => ?_]
      · rw [sD, sumD_out _ _ out]
        simp
      · rw [sD, if_neg fun e => hj e.symm, if_neg fun e => hj e.symm]
        simp
    unfold runC
    by_cases h1 : y.d = x.d
    · rw [if_neg (by simpa using h1)]
      by_cases h2 : y.p = x.p
      · rw [if_neg (by simpa using h2), ih, sameP (up_eq.2 ⟨h1, h2⟩), sameD h1, tq]
        omega
      · rw [if_pos h2, ih, newP (fun e => h2 (up_eq.1 e).2), sameD h1, tq]
        omega
    · rw [if_pos h1, ih, newP (fun e => h1 (up_eq.1 e).1), newD h1, tq]
      omega
theorem keys_asE (l : List Vc) : keys (asE l) = l.map Vc.key := by simp [keys, asE]
theorem srt_nodup : ∀ l, Srt l → (l.map Vc.key).Nodup
  | [], _ => by simp
  | x :: l, h => by
    rw [List.map_cons, List.nodup_cons]
    refine ⟨fun hm => ?_, srt_nodup l h.2⟩
    obtain ⟨v, hv, e⟩ := List.mem_map.1 hm
    exact bef_ne (h.1 v hv) e.symm
theorem bal_at : ∀ (l : List Vc), Srt l → ∀ v ∈ l, bal (asE l) v.key = v.q
  | x :: l, h, v, hv => by
    have e : asE (x :: l) = (x.key, x.q) :: asE l := rfl
    rw [e, bal_cons]
    rcases List.mem_cons.1 hv with rfl | hv
    · simp
    · rw [if_neg (bef_ne (h.1 v hv)), bal_at l h.2 v hv]
theorem tot_map {α β : Type} (f : β → Int) (g : α → β) : ∀ l : List α, tot f (l.map g) = tot (fun x => f (g x)) l
  | [] => rfl
  | x :: l => by rw [List.map_cons, tot_cons, tot_cons, tot_map f g l]
/-- The reference's cost is the cost. -/
theorem run_isCost (l : List Vc) (h : Srt l) : IsCost (asE l) (runC 0 0 0 l) := by
  have e1 : ∀ j, bal (pm (bal (asE l)) (l.map Vc.key)) j = sumP l j := fun j => by
    rw [bal_pm, tot_map]
    exact tot_congr l fun v hv => by rw [bal_at l h v hv]
  have e2 : ∀ j, get0 (dm (bal (asE l)) (l.map Vc.key)) j = sumD l j := fun j => by
    rw [get0_dm, tot_map]
    exact tot_congr l fun v hv => by rw [bal_at l h v hv]; rfl
  refine ⟨l.map Vc.key, PL l, DL l, ⟨srt_nodup l h, PL_nodup l, DL_nodup l, fun k => by rw [keys_asE], fun k => ?_, fun k => ?_⟩, ?_⟩
  · rw [mem_PL, mem_pm]
    constructor
    · rintro ⟨v, hv, e⟩
      exact ⟨v.key, List.mem_map.2 ⟨v, hv, rfl⟩, e⟩
    · rintro ⟨k', hk, e⟩
      obtain ⟨v, hv, rfl⟩ := List.mem_map.1 hk
      exact ⟨v, hv, e⟩
  · rw [mem_DL, mem_dm]
    constructor
    · rintro ⟨v, hv, e⟩
      exact ⟨v.key, List.mem_map.2 ⟨v, hv, rfl⟩, e⟩
    · rintro ⟨k', hk, e⟩
      obtain ⟨v, hv, rfl⟩ := List.mem_map.1 hk
      exact ⟨v, hv, e⟩
  · unfold costS
    rw [tot_map, tot_congr l fun v hv => by rw [bal_at l h v hv], tot_congr (PL l) fun j _ => by rw [e1 j], tot_congr (DL l) fun j _ => by rw [e2 j]]
    cases l with
    | nil => rfl
    | cons x l =>
      rw [run_eq l x 0 0 0 h]
      simp
theorem ref_cost {xs ys : List Vc} {L : List Nat} : runC 0 0 0 (dif xs (sel ys L)) = Cst xs ys L := by
  have hs : Srt (dif xs (sel ys L)) := addL_srt _ _ (addL_srt _ _ trivial)
  rw [isCost_canon _ _ (univ (xs ++ ys)) (nodup_addAll 1 _ [] (by simp [keys])) (fun k hk => ?_) (run_isCost _ hs)]
  · unfold Cst
    rw [tk_btw, bal_dif]
  · rw [keys_asE] at hk
    obtain ⟨y, hy, rfl⟩ := List.mem_map.1 hk
    rw [mem_univ]
    rcases addL_mem _ _ y hy with ⟨x, hx, e⟩ | ⟨v, hv, e⟩
    · rcases addL_mem _ _ x hx with ⟨z, hz, _⟩ | ⟨z, hz, e2⟩
      · cases hz
      · exact ⟨z, by simp [hz], e2.trans e⟩
    · obtain ⟨u, hu, rfl⟩ := List.mem_map.1 hv
      exact ⟨u, by simp [sel_mem hu], e⟩
end Go.Proofs.Ytfflhlmnfhfcgaa
