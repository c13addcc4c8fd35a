/- Chapter 27: an undo of a work, and an undo of that undo (plain). -/
import Derived.Test.YtjbpdimepckmfaaXNxtPM
import Derived.Test.YtjbpdimepckmfaaXLsm
namespace Go.Proofs.Ytjbpdimepckmfaa
open Go.RowKit Go.Kq

/-- The works below n looked at, from the last one down. -/
def undD (l : List Wk) : Nat → List Bool → List Bool
  | 0, out => out
  | n + 1, out => undD l n (undS l n out)
def lawD (l : List Wk) : Nat → List Bool → List Bool
  | 0, out => out
  | n + 1, out => lawD l n (lawS l n out)
theorem undD_at (l : List Wk) : ∀ n m, n + m = l.length → undD l n (undAt l m) = undL l
  | 0, m, h => by
    have : m = l.length := by omega
    rw [this]
    rfl
  | n + 1, m, h => by
    have h1 : undS l n (undAt l m) = undAt l (m + 1) := by rw [undAt, show l.length - 1 - m = n by omega]
    rw [undD, h1]
    exact undD_at l n (m + 1) (by omega)
theorem undL_D (l : List Wk) : undL l = undD l l.length (List.replicate l.length false) := (undD_at l l.length 0 (by omega)).symm
theorem lawD_at (l : List Wk) (wo : Int) : ∀ n m, n + m = l.length → lawD l n (lawAt l wo m) = lawL l wo
  | 0, m, h => by
    have : m = l.length := by omega
    rw [this]
    rfl
  | n + 1, m, h => by
    have h1 : lawS l n (lawAt l wo m) = lawAt l wo (m + 1) := by rw [lawAt, show l.length - 1 - m = n by omega]
    rw [lawD, h1]
    exact lawD_at l wo n (m + 1) (by omega)
theorem lawL_D (l : List Wk) (wo : Int) : lawL l wo = lawD l l.length (law0 l.length wo) := (lawD_at l wo l.length 0 (by omega)).symm
theorem law_und1 {l : List Wk} (hN : Names l) (i : Nat) (out : List Bool) (hi : i < out.length) : lawS l i (out.map (!·)) = (undS l i out).map (!·) := by
  rw [lawS_eq hN]
  unfold undS
  cases ht : tgt l i with
  | none => rfl
  | some k =>
    simp only
    obtain ⟨q, hq⟩ : ∃ q, out[i]? = some q := ⟨_, List.getElem?_eq_getElem hi⟩
    rw [List.getD_eq_getElem?_getD, List.getD_eq_getElem?_getD, List.getElem?_map, hq]
    cases q
    · simp [List.map_set]
    · simp
theorem law_und {l : List Wk} (hN : Names l) : ∀ n out, n ≤ out.length → lawD l n (out.map (!·)) = (undD l n out).map (!·)
  | 0, _, _ => rfl
  | n + 1, out, h => by
    rw [lawD, undD, law_und1 hN n out (by omega)]
    exact law_und hN n _ (by rw [undS_len]; omega)
theorem names_pre {l s : List Wk} (h : Names (l ++ s)) : Names l := fun i j u v hu hv he =>
  h i j u v (by rw [List.getElem?_append_left (List.getElem?_eq_some_iff.1 hu).1]; exact hu) (by rw [List.getElem?_append_left (List.getElem?_eq_some_iff.1 hv).1]; exact hv) he
theorem tgt_pre {l s : List Wk} (h : Names (l ++ s)) {i : Nat} (hi : i < l.length) : tgt (l ++ s) i = tgt l i := by
  unfold tgt
  rw [List.getElem?_append_left hi]
  cases hv : l[i]? with
  | none => rfl
  | some v =>
    simp only
    have e1 := findN_take h (i := i) v.onm
    have e2 := findN_take (names_pre h) (i := i) v.onm
    rw [List.take_append_of_le_length (by omega), e2] at e1
    by_cases h4 : v.kd = 4
    · rw [if_pos h4, if_pos h4]
      exact e1.symm
    · rw [if_neg h4, if_neg h4]
theorem undS_pre {l s : List Wk} (h : Names (l ++ s)) {i : Nat} (hi : i < l.length) {o : List Bool} (ho : o.length = l.length) (t : List Bool) : undS (l ++ s) i (o ++ t) = undS l i o ++ t := by
  unfold undS
  rw [tgt_pre h hi]
  cases ht : tgt l i with
  | none => rfl
  | some k =>
    have hk := tgt_lt ht
    simp only
    rw [List.getD_eq_getElem?_getD, List.getElem?_append_left (by omega), ← List.getD_eq_getElem?_getD]
    split
    · rfl
    · rw [List.set_append_left _ _ (by omega)]
theorem undD_pre {l s : List Wk} (h : Names (l ++ s)) (t : List Bool) : ∀ (n : Nat) (o : List Bool), n ≤ l.length → o.length = l.length → undD (l ++ s) n (o ++ t) = undD l n o ++ t
  | 0, _, _, _ => rfl
  | n + 1, o, hn, ho => by
    rw [undD, undD, undS_pre h (by omega) ho]
    exact undD_pre h t n _ (by omega) (by rw [undS_len, ho])
theorem undD_len (l : List Wk) : ∀ n out, (undD l n out).length = out.length
  | 0, _ => rfl
  | n + 1, out => by rw [undD, undD_len l n, undS_len]

/-! ### a record with one more work -/
theorem rec_snoc {l : List Wk} {x : Wk} (h : Rec l) (hl : l.length < 400) (hx : okW x = true) (hlt : ∀ u ∈ l, ltW u x = true) (hn : x.num = (many l x.wk : Int) + 1) : Rec (l ++ [x]) := by
  refine ⟨by simp; omega, fun v hv => ?_, List.pairwise_append.2 ⟨h.srt, by simp, fun u hu y hy => ?_⟩, fun k => ?_⟩
  · rcases List.mem_append.1 hv with hv | hv
    · exact h.ok v hv
    · simp at hv
      rw [hv]
      exact hx
  · simp at hy
    subst hy
    exact hlt u hu
  · rw [wkr_snoc]
    by_cases hk : x.wk = k
    · subst hk
      rw [if_pos rfl, List.map_append, h.num, List.length_append, List.length_singleton, nums_succ, ← many_eq]
      simp [hn]
    · rw [if_neg hk, List.append_nil]
      exact h.num k
theorem ck_last {l : List Wk} (h : SrtW l) : ∀ u ∈ l, u.ck < ckAt l l.length := by
  intro u hu
  obtain ⟨i, hi⟩ := List.getElem?_of_mem hu
  have hil := (List.getElem?_eq_some_iff.1 hi).1
  obtain ⟨n, hn⟩ : ∃ n, l.length = n + 1 := ⟨l.length - 1, by omega⟩
  obtain ⟨x, hx⟩ : ∃ x, l[n]? = some x := ⟨_, List.getElem?_eq_getElem (by omega)⟩
  have e : ckAt l l.length = x.ck + 1 := by
    rw [hn]
    show (match l[n]? with | some u => u.ck + 1 | none => 1) = _
    rw [hx]
  rw [e]
  by_cases hin : i = n
  · subst hin
    rw [hi] at hx
    cases hx
    omega
  · have h2 := (List.pairwise_iff_getElem.1 h) i n hil (by omega) (by omega)
    rw [(List.getElem?_eq_some_iff.1 hi).2, (List.getElem?_eq_some_iff.1 hx).2, ltW_iff] at h2
    omega
/-- The undo of work k by a worker, not yet completed. -/
def undoW (a : Int) (u : Wk) : Wk := ⟨a, 0, 0, 4, 0, 0, 0, 0, u.wk, u.num, ⟨#[]⟩⟩
/-- The undo, completed. -/
def undoN (l : List Wk) (a : Int) (u : Wk) : Wk := nxtW l (undoW a u) l.length
theorem undo_ok {l : List Wk} (h : Rec l) (hl : l.length < 400) (hc : ckAt l l.length ≤ 1000000000) {a : Int} (ha : 0 ≤ a ∧ a < 20) {k : Nat} {u : Wk} (hu : l[k]? = some u) :
    nextV l (undoW a u) = (undoN l a u, 0) ∧ Rec (l ++ [undoN l a u]) ∧ tgt (l ++ [undoN l a u]) l.length = some k := by
  have hb := ck_bd h.ok l.length
  have hm := many_le l a
  have hfu := h.fits k u hu
  have hok : okW (undoN l a u) = true := by
    unfold okW okN okK undoN nxtW undoW
    have e : noT (⟨#[]⟩ : ByteArray) = true := by unfold noT; rw [empty_l]; rfl
    simp only [List.take_length]
    simp only [e, okN]
    simp
    omega
  have hfn : findN l (undoW a u).onm = some k := findN_of h.names hu
  have hN : nextV l (undoW a u) = (undoN l a u, 0) := by
    unfold nextV
    rw [rec_chk h, if_neg (by simp), if_neg (by omega), if_neg (by omega), if_pos (by exact hok), if_neg (by rw [hfn]; simp)]
    rfl
  have hR : Rec (l ++ [undoN l a u]) := rec_snoc h hl hok (fun x hx => by
    have h1 := ck_last h.srt x hx
    rw [ltW_iff]
    exact .inl h1) (by
    show (many (l.take l.length) a : Int) + 1 = (many l a : Int) + 1
    rw [List.take_length])
  refine ⟨hN, hR, ?_⟩
  have hkl := (List.getElem?_eq_some_iff.1 hu).1
  have hf2 : findN (l ++ [undoN l a u]) (undoN l a u).onm = some k := findN_of hR.names (by rw [List.getElem?_append_left hkl]; exact hu)
  unfold tgt
  rw [List.getElem?_append_right (Nat.le_refl _), Nat.sub_self]
  simp only [List.getElem?_cons_zero]
  rw [if_pos (show (undoN l a u).kd = 4 from rfl), hf2]
  simp only
  rw [if_pos hkl]
theorem undo_one {l : List Wk} {x : Wk} (h : Rec (l ++ [x])) {k : Nat} (hk : k < l.length) (ht : tgt (l ++ [x]) l.length = some k) : undL (l ++ [x]) = undD l l.length ((List.replicate l.length false).set k true) ++ [false] := by
  have e1 : undS (l ++ [x]) l.length (List.replicate (l.length + 1) false) = (List.replicate l.length false).set k true ++ [false] := by
    unfold undS
    rw [ht]
    simp only
    rw [if_neg (by rw [List.getD_eq_getElem?_getD, List.getElem?_replicate]; simp), List.replicate_succ', List.set_append_left _ _ (by simp; exact hk)]
  rw [undL_D, List.length_append, List.length_singleton, undD, e1]
  exact undD_pre h.names [false] l.length _ (Nat.le_refl _) (by simp)
theorem undo_two {l : List Wk} {x y : Wk} (h : Rec (l ++ [x] ++ [y])) {k : Nat} (ht : tgt (l ++ [x]) l.length = some k) (ht2 : tgt (l ++ [x] ++ [y]) (l ++ [x]).length = some l.length) : undL (l ++ [x] ++ [y]) = undL l ++ [true, false] := by
  have hN := h.names
  have e1 : undS (l ++ [x] ++ [y]) (l ++ [x]).length (List.replicate ((l ++ [x]).length + 1) false) = List.replicate l.length false ++ [true, false] := by
    unfold undS
    rw [ht2]
    simp only
    rw [if_neg (by rw [List.getD_eq_getElem?_getD, List.getElem?_replicate]; simp), List.length_append, List.length_singleton, List.replicate_succ', List.replicate_succ', List.append_assoc, List.set_append_right _ _ (by simp)]
    simp
  have e2 : undS (l ++ [x] ++ [y]) l.length (List.replicate l.length false ++ [true, false]) = List.replicate l.length false ++ [true, false] := by
    unfold undS
    rw [tgt_pre hN (by simp), ht]
    simp only
    rw [if_pos (by rw [List.getD_eq_getElem?_getD, List.getElem?_append_right (by simp)]; simp)]
  rw [undL_D, List.length_append, List.length_singleton, undD, e1, List.length_append, List.length_singleton, undD, e2, List.append_assoc]
  rw [List.append_assoc] at hN
  rw [undD_pre hN [true, false] l.length _ (Nat.le_refl _) (by simp), ← undL_D]
theorem law0_set (n k : Nat) (hk : k < n) : law0 n (k : Int) = ((List.replicate n false).set k true).map (!·) := by
  unfold law0
  apply List.ext_getElem?
  intro i
  by_cases hi : i < n
  · rw [List.getElem?_map, List.getElem?_range hi, List.getElem?_map]
    by_cases e : i = k
    · subst e
      rw [List.getElem?_set_self (by simp; exact hi)]
      simp
    · rw [List.getElem?_set_ne (fun h => e h.symm), List.getElem?_replicate, if_pos hi]
      simp
      omega
  · rw [List.getElem?_eq_none (by simp; omega), List.getElem?_eq_none (by simp; omega)]
theorem app_eq {α : Type} {A B C : List α} (h : A = C) (h2 : B = []) : A ++ B = C := by rw [h, h2, List.append_nil]
theorem cws_snoc {l : List Wk} {x : Wk} {o : List Bool} (hx : x.kd = 4) {t : List Bool} (ho : o.length = l.length) (h : undL (l ++ [x]) = o ++ t) : cws (l ++ [x]) = cwsB l (o.map (!·)) l.length := by
  unfold cws cntL cntU cwsB
  rw [List.length_append, List.length_singleton, List.range_succ, List.filterMap_append, List.map_append, List.map_filterMap]
  refine app_eq ?_ (by simp [isC, hx])
  refine fm_congr _ fun j hj => ?_
  have hj := List.mem_range.1 hj
  obtain ⟨v, hv⟩ : ∃ v, l[j]? = some v := ⟨_, List.getElem?_eq_getElem hj⟩
  obtain ⟨q, hq⟩ : ∃ q, o[j]? = some q := ⟨_, List.getElem?_eq_getElem (by omega)⟩
  simp only [List.getElem?_append_left hj, hv, isC, h, List.getD_eq_getElem?_getD, List.getElem?_append_left (show j < o.length by omega), List.getElem?_map, hq, Option.map_some, Option.getD_some]
  cases (!q && v.kd != 4) <;> simp
/-- What counts with the undo is what counts without the work. -/
theorem cws_one {l : List Wk} {x : Wk} (hl : Names l) (h : Rec (l ++ [x])) (hx : x.kd = 4) {k : Nat} (hk : k < l.length) (ht : tgt (l ++ [x]) l.length = some k) : cws (l ++ [x]) = cwsB l (lawL l k) l.length := by
  rw [cws_snoc hx (by rw [undD_len]; simp) (undo_one h hk ht), lawL_D, law0_set _ _ hk, law_und hl _ _ (by simp)]
/-- What counts with the undo of the undo is what counts. -/
theorem cws_two {l : List Wk} {x y : Wk} (h : Rec (l ++ [x] ++ [y])) (hl : Names l) (hx : x.kd = 4) (hy : y.kd = 4) {k : Nat} (ht : tgt (l ++ [x]) l.length = some k) (ht2 : tgt (l ++ [x] ++ [y]) (l ++ [x]).length = some l.length) : cws (l ++ [x] ++ [y]) = cws l := by
  have e := undo_two h ht ht2
  have e2 : undL (l ++ [x] ++ [y]) = (undL l ++ [true]) ++ [false] := by rw [e]; simp
  rw [cws_snoc hy (by unfold undL; rw [List.length_append, undAt_len]; simp) e2, ← cwsB_und hl, lawL_und hl]
  unfold cwsB
  rw [List.length_append, List.length_singleton, List.range_succ, List.filterMap_append]
  refine app_eq ?_ (by simp [hx])
  refine fm_congr _ fun j hj => ?_
  have hj := List.mem_range.1 hj
  have hj2 : j < (undL l).length := by unfold undL; rw [undAt_len]; exact hj
  simp only [List.getElem?_append_left hj, List.getD_eq_getElem?_getD, List.getElem?_map, List.getElem?_append_left hj2]
end Go.Proofs.Ytjbpdimepckmfaa
