/- Chapter 27: records and what merging them gives (plain). -/
import Derived.Test.YtjbpdimepckmfaaXLibStiM
import Derived.Test.YtjbpdimepckmfaaXRchAM
namespace Go.Proofs.Ytjbpdimepckmfaa
open Go.RowKit Go.Kq

theorem ltW_iff (a b : Wk) : ltW a b = true ↔ a.ck < b.ck ∨ (a.ck = b.ck ∧ (a.wk < b.wk ∨ (a.wk = b.wk ∧ a.num < b.num))) := by unfold ltW; exact decide_eq_true_iff
theorem ltW_no (a b : Wk) : ltW a b = false ↔ ¬ (a.ck < b.ck ∨ (a.ck = b.ck ∧ (a.wk < b.wk ∨ (a.wk = b.wk ∧ a.num < b.num)))) := by unfold ltW; exact decide_eq_false_iff_not
theorem ltW_trans {a b c : Wk} (h : ltW a b = true) (h2 : ltW b c = true) : ltW a c = true := by
  rw [ltW_iff] at h h2 ⊢
  omega
theorem ltW_irr (a : Wk) : ltW a a = false := by rw [ltW_no]; omega
theorem ltW_total {a b : Wk} (h : ltW a b = false) (h2 : ltW b a = false) : a.nm = b.nm := by
  rw [ltW_no] at h h2
  unfold Wk.nm
  rw [Prod.mk.injEq]
  omega
abbrev SrtW (l : List Wk) : Prop := l.Pairwise fun a b => ltW a b = true
theorem SrtW.nodup {l : List Wk} (h : SrtW l) : l.Nodup := h.imp fun {a b} h e => by rw [e, ltW_irr] at h; cases h
theorem srt_ext {l m : List Wk} (h : SrtW l) (h2 : SrtW m) (hm : ∀ v, v ∈ l ↔ v ∈ m) : l = m :=
  List.Perm.eq_of_pairwise (le := fun a b => ltW a b = true) (fun a b _ _ x y => by have := ltW_trans x y; rw [ltW_irr] at this; cases this) h h2 ((List.perm_ext_iff_of_nodup h.nodup h2.nodup).2 hm)

theorem bool_of_false {x y : Bool} (h : x = false ↔ y = false) : x = y := by cases x <;> cases y <;> simp at h ⊢

/-! ### records -/
/-- The works of a worker. -/
def wkr (l : List Wk) (k : Int) : List Wk := l.filter fun v => decide (v.wk = k)
def nums (n : Nat) : List Int := (List.range n).map fun i : Nat => (i : Int) + 1
theorem nums_len (n : Nat) : (nums n).length = n := by simp [nums]
theorem nums_at {n i : Nat} {x : Int} (h : (nums n)[i]? = some x) : i < n ∧ x = (i : Int) + 1 := by
  have hi := (List.getElem?_eq_some_iff.1 h).1
  rw [nums_len] at hi
  refine ⟨hi, ?_⟩
  unfold nums at h
  rw [List.getElem?_map, List.getElem?_range hi] at h
  simpa using h.symm
theorem nums_succ (n : Nat) : nums (n + 1) = nums n ++ [(n : Int) + 1] := by unfold nums; rw [List.range_succ]; simp
theorem wkr_snoc (l : List Wk) (v : Wk) (k : Int) : wkr (l ++ [v]) k = wkr l k ++ if v.wk = k then [v] else [] := by
  unfold wkr
  rw [List.filter_append]
  by_cases h : v.wk = k <;> simp [h]
theorem many_eq (l : List Wk) (k : Int) : many l k = (wkr l k).length := rfl
structure Rec (l : List Wk) : Prop where
  len : l.length ≤ 400
  ok : ∀ v ∈ l, okW v = true
  srt : SrtW l
  num : ∀ k, (wkr l k).map Wk.num = nums (wkr l k).length
theorem pre_rec {l : List Wk} (h : ordOk [] l = true) : ∀ m, m ≤ l.length → SrtW (l.take m) ∧ ∀ k, (wkr (l.take m) k).map Wk.num = nums (wkr (l.take m) k).length
  | 0, _ => by
    rw [List.take_zero]
    exact ⟨List.Pairwise.nil, fun k => rfl⟩
  | m + 1, hm => by
    obtain ⟨h1, h2⟩ := pre_rec h m (by omega)
    obtain ⟨v, hv⟩ : ∃ v, l[m]? = some v := ⟨_, List.getElem?_eq_getElem (by omega)⟩
    have h3 := (ordOk_at l []).1 h m v hv
    rw [List.nil_append] at h3
    unfold stepOk at h3
    rw [Bool.and_eq_true, decide_eq_true_eq] at h3
    rw [List.take_add_one, hv]
    refine ⟨?_, fun k => ?_⟩
    · show SrtW (l.take m ++ [v])
      refine List.pairwise_append.2 ⟨h1, by simp, fun u hu x hx => ?_⟩
      simp at hx
      subst hx
      cases hl : (l.take m).getLast? with
      | none =>
        rw [List.getLast?_eq_none_iff] at hl
        rw [hl] at hu
        cases hu
      | some y =>
        have h4 := h3.1
        rw [hl] at h4
        obtain ⟨ys, hys⟩ := List.getLast?_eq_some_iff.1 hl
        rw [hys] at hu h1
        rcases List.mem_append.1 hu with hu | hu
        · exact ltW_trans ((List.pairwise_append.1 h1).2.2 u hu y (by simp)) h4
        · simp at hu
          subst hu
          exact h4
    · show (wkr (l.take m ++ [v]) k).map Wk.num = nums (wkr (l.take m ++ [v]) k).length
      rw [wkr_snoc]
      by_cases hk : v.wk = k
      · subst hk
        rw [if_pos rfl, List.map_append, h2, List.length_append, List.length_singleton, nums_succ, ← many_eq]
        simp [h3.2]
      · rw [if_neg hk, List.append_nil]
        exact h2 k
theorem chk_split {l : List Wk} (h : chkL l = 0) : l.length ≤ 400 ∧ l.all okW = true ∧ ordOk [] l = true := by
  unfold chkL at h
  by_cases h1 : 400 < l.length
  · rw [if_pos h1] at h
    cases h
  · rw [if_neg h1] at h
    by_cases h2 : l.all okW = true
    · rw [if_pos h2] at h
      by_cases h3 : ordOk [] l = true
      · exact ⟨by omega, h2, h3⟩
      · rw [if_neg h3] at h
        cases h
    · rw [if_neg h2] at h
      cases h
theorem rec_of {l : List Wk} (h : chkL l = 0) : Rec l := by
  obtain ⟨h1, h2, h3⟩ := chk_split h
  have h4 := pre_rec h3 l.length (Nat.le_refl _)
  rw [List.take_length] at h4
  exact ⟨h1, fun v hv => List.all_eq_true.1 h2 v hv, h4.1, h4.2⟩
theorem wkr_cut {l : List Wk} {i : Nat} {v : Wk} (hv : l[i]? = some v) : ∃ r, wkr l v.wk = wkr (l.take i) v.wk ++ v :: r := by
  obtain ⟨hi, he⟩ := List.getElem?_eq_some_iff.1 hv
  refine ⟨wkr (l.drop (i + 1)) v.wk, ?_⟩
  have h : l = l.take i ++ v :: l.drop (i + 1) := by rw [← he, List.getElem_cons_drop, List.take_append_drop]
  conv => lhs; rw [h]
  unfold wkr
  rw [List.filter_append, List.filter_cons]
  simp
theorem Rec.num_at {l : List Wk} (h : Rec l) {i : Nat} {v : Wk} (hv : l[i]? = some v) : v.num = (many (l.take i) v.wk : Int) + 1 := by
  obtain ⟨r, hr⟩ := wkr_cut hv
  have h1 := h.num v.wk
  have h2 : ((wkr l v.wk).map Wk.num)[(wkr (l.take i) v.wk).length]? = some v.num := by
    rw [hr, List.getElem?_map, List.getElem?_append_right (Nat.le_refl _)]
    simp
  rw [h1] at h2
  exact (nums_at h2).2
theorem rec_chk {l : List Wk} (h : Rec l) : chkL l = 0 := by
  have h1 := h.len
  have h2 : l.all okW = true := List.all_eq_true.2 h.ok
  have h3 : ordOk [] l = true := ordOk_all fun i v hv => by
    unfold stepOk
    rw [Bool.and_eq_true, decide_eq_true_eq]
    refine ⟨?_, h.num_at hv⟩
    cases hl : (l.take i).getLast? with
    | none => rfl
    | some u =>
      obtain ⟨ys, hys⟩ := List.getLast?_eq_some_iff.1 hl
      have h4 : SrtW (l.take i ++ [v]) := by
        have : l.take (i + 1) = l.take i ++ [v] := by rw [List.take_add_one, hv]; rfl
        rw [← this]
        exact List.Pairwise.sublist (List.take_sublist _ _) h.srt
      exact (List.pairwise_append.1 h4).2.2 u (by rw [hys]; simp) v (by simp)
  unfold chkL
  rw [if_neg (by omega), if_pos h2, if_pos h3]
theorem many_mono (l : List Wk) (k : Int) {i j : Nat} (h : i ≤ j) : many (l.take i) k ≤ many (l.take j) k := by
  obtain ⟨d, rfl⟩ : ∃ d, j = i + d := ⟨j - i, by omega⟩
  rw [List.take_add]
  unfold many
  rw [List.filter_append, List.length_append]
  omega
theorem Rec.names {l : List Wk} (h : Rec l) : Names l := by
  have key : ∀ (i j : Nat) (u v : Wk), i < j → l[i]? = some u → l[j]? = some v → u.nm = v.nm → False := by
    intro i j u v hij hu hv he
    unfold Wk.nm at he
    rw [Prod.mk.injEq] at he
    have h1 := h.num_at hu
    have h2 := h.num_at hv
    have h3 := many_mono l u.wk (i := i + 1) (j := j) hij
    have h4 : many (l.take (i + 1)) u.wk = many (l.take i) u.wk + 1 := by
      rw [List.take_add_one, hu, Option.toList_some, many_snoc, if_pos rfl]
    rw [← he.1] at h2
    omega
  intro i j u v hu hv he
  rcases Nat.lt_trichotomy i j with hij | hij | hij
  · exact (key i j u v hij hu hv he).elim
  · exact hij
  · exact (key j i v u hij hv hu he.symm).elim
theorem Rec.fits {l : List Wk} (h : Rec l) (i : Nat) (v : Wk) (hv : l[i]? = some v) : 0 ≤ v.wk ∧ v.wk < 20 ∧ 1 ≤ v.num ∧ v.num ≤ 400 := by
  have := h.ok v (List.mem_of_getElem? hv)
  unfold okW okN at this
  simp only [Bool.and_eq_true, decide_eq_true_eq] at this
  omega

/-! ### names -/
theorem findN_none {l : List Wk} {x : Nm} : findN l x = none ↔ ∀ u ∈ l, u.nm ≠ x := by
  unfold findN
  rw [List.findIdx?_eq_none_iff]
  simp
theorem findN_at {l : List Wk} {x : Nm} {k : Nat} (h : findN l x = some k) : ∃ u, l[k]? = some u ∧ u.nm = x := by
  unfold findN at h
  rw [List.findIdx?_eq_some_iff_getElem] at h
  obtain ⟨hk, h1, _⟩ := h
  exact ⟨_, List.getElem?_eq_getElem hk, by simpa using h1⟩
theorem findN_of {l : List Wk} (hN : Names l) {k : Nat} {u : Wk} (hu : l[k]? = some u) : findN l u.nm = some k := by
  cases h : findN l u.nm with
  | none => exact absurd rfl (findN_none.1 h u (List.mem_of_getElem? hu))
  | some j =>
    obtain ⟨v, hv, he⟩ := findN_at h
    rw [hN j k v u hv hu he]
theorem Names.inj {l : List Wk} (h : Names l) {u v : Wk} (hu : u ∈ l) (hv : v ∈ l) (he : u.nm = v.nm) : u = v := by
  obtain ⟨i, hi⟩ := List.getElem?_of_mem hu
  obtain ⟨j, hj⟩ := List.getElem?_of_mem hv
  have := h i j u v hi hj he
  subst this
  rw [hi] at hj
  exact Option.some.inj hj
theorem Names.nodup {l : List Wk} (h : Names l) : l.Nodup := by
  rw [List.nodup_iff_pairwise_ne, List.pairwise_iff_getElem]
  intro i j hi hj hij e
  have := h i j _ _ (List.getElem?_eq_getElem hi) (List.getElem?_eq_getElem hj) (by rw [e])
  omega

/-! ### merging -/
/-- The works of b that a lacks. -/
def miss (a b : List Wk) : List Wk := b.filter fun w => (findN a w.nm).isNone
def clash1 (a : List Wk) (w : Wk) : Bool := match findN a w.nm with | some k => !eqW (a.getD k default) w | none => false
/-- A work of b differs from that of a by its name. -/
def clash (a b : List Wk) : Bool := b.any (clash1 a)
theorem clash1_no {a : List Wk} (hN : Names a) (w : Wk) : clash1 a w = false ↔ ∀ u ∈ a, u.nm = w.nm → u = w := by
  unfold clash1
  cases h : findN a w.nm with
  | none => exact ⟨fun _ u hu he => absurd he (findN_none.1 h u hu), fun _ => rfl⟩
  | some k =>
    obtain ⟨v, hv, he⟩ := findN_at h
    simp only [List.getD_eq_getElem?_getD, hv, Option.getD_some, Bool.not_eq_false', eqW_iff]
    constructor
    · rintro rfl u hu h2
      exact hN.inj hu (List.mem_of_getElem? hv) h2
    · exact fun h2 => h2 v (List.mem_of_getElem? hv) he
theorem clash_no {a b : List Wk} (hN : Names a) : clash a b = false ↔ ∀ u ∈ a, ∀ w ∈ b, u.nm = w.nm → u = w := by
  unfold clash
  rw [List.any_eq_false]
  simp only [Bool.not_eq_true]
  constructor
  · exact fun h u hu w hw => (clash1_no hN w).1 (h w hw) u hu
  · exact fun h w hw => (clash1_no hN w).2 fun u hu => h u hu w hw
theorem clash_comm {a b : List Wk} (hA : Names a) (hB : Names b) : clash a b = clash b a := by
  refine bool_of_false ?_
  rw [clash_no hA, clash_no hB]
  exact ⟨fun h u hu w hw he => (h w hw u hu he.symm).symm, fun h u hu w hw he => (h w hw u hu he.symm).symm⟩
/-- The works of both. -/
def bothW (a b : List Wk) : List Wk := a ++ miss a b
def leW (x y : Wk) : Bool := !ltW y x
def mrgL (a b : List Wk) : List Wk := (bothW a b).mergeSort leW
theorem mem_both {a b : List Wk} (hN : Names a) (hc : clash a b = false) (v : Wk) : v ∈ bothW a b ↔ v ∈ a ∨ v ∈ b := by
  unfold bothW miss
  rw [List.mem_append, List.mem_filter, Option.isNone_iff_eq_none, findN_none]
  constructor
  · rintro (h | h)
    · exact .inl h
    · exact .inr h.1
  · rintro (h | h)
    · exact .inl h
    · by_cases hu : ∃ u ∈ a, u.nm = v.nm
      · obtain ⟨u, hu, he⟩ := hu
        have := (clash_no hN).1 hc u hu v h he
        subst this
        exact .inl hu
      · exact .inr ⟨h, fun x hx he => hu ⟨x, hx, he⟩⟩
theorem both_names {a b : List Wk} (hA : Names a) (hB : Names b) : ∀ u ∈ bothW a b, ∀ v ∈ bothW a b, u.nm = v.nm → u = v := by
  have key : ∀ u ∈ a, ∀ v ∈ miss a b, u.nm ≠ v.nm := fun u hu v hv => by
    unfold miss at hv
    rw [List.mem_filter, Option.isNone_iff_eq_none, findN_none] at hv
    exact hv.2 u hu
  intro u hu v hv he
  unfold bothW at hu hv
  rcases List.mem_append.1 hu with hu | hu <;> rcases List.mem_append.1 hv with hv | hv
  · exact hA.inj hu hv he
  · exact absurd he (key u hu v hv)
  · exact absurd he.symm (key v hv u hu)
  · exact hB.inj (List.mem_filter.1 hu).1 (List.mem_filter.1 hv).1 he
theorem both_nodup {a b : List Wk} (hA : Names a) (hB : Names b) : (bothW a b).Nodup := by
  unfold bothW
  rw [List.nodup_append]
  refine ⟨hA.nodup, List.Nodup.sublist List.filter_sublist hB.nodup, fun u hu v hv e => ?_⟩
  subst e
  unfold miss at hv
  rw [List.mem_filter, Option.isNone_iff_eq_none, findN_none] at hv
  exact hv.2 u hu rfl
theorem mrg_perm (a b : List Wk) : (mrgL a b).Perm (bothW a b) := List.mergeSort_perm _ _
/-- What is sorted and has no name twice is sorted strictly. -/
theorem srt_strict {l : List Wk} (hn : l.Nodup) (hx : ∀ u ∈ l, ∀ v ∈ l, u.nm = v.nm → u = v) (h : l.Pairwise fun x y => ltW y x = false) : SrtW l := by
  have h1 : l.Pairwise fun x y => ltW y x = false ∧ x ≠ y := h.and hn
  refine List.pairwise_iff_forall_sublist.2 fun {x y} hs => ?_
  obtain ⟨h3, h4⟩ := List.pairwise_iff_forall_sublist.1 h1 hs
  cases h5 : ltW x y with
  | true => rfl
  | false =>
    have hm := hs.subset
    exact absurd (hx x (hm (by simp)) y (hm (by simp)) (ltW_total h5 h3)) h4
theorem mrg_srt {a b : List Wk} (hA : Names a) (hB : Names b) : SrtW (mrgL a b) := by
  have hp := mrg_perm a b
  refine srt_strict (hp.nodup_iff.2 (both_nodup hA hB)) (fun u hu v hv => both_names hA hB u (hp.mem_iff.1 hu) v (hp.mem_iff.1 hv)) ?_
  have h := List.pairwise_mergeSort (le := leW) (fun x y z h1 h2 => by
    unfold leW at *
    rw [Bool.not_eq_true', ltW_no] at *
    omega) (fun x y => by
    unfold leW
    rw [Bool.or_eq_true, Bool.not_eq_true', Bool.not_eq_true', ltW_no, ltW_no]
    omega) (bothW a b)
  exact h.imp fun {x y} h => by
    unfold leW at h
    simpa using h
/-- Whatever is sorted and has the works of both is their merge. -/
theorem mrg_uniq {a b l : List Wk} (hA : Names a) (hB : Names b) (hp : l.Perm (bothW a b)) (hs : l.Pairwise fun x y => ltW y x = false) : l = mrgL a b :=
  srt_ext (srt_strict (hp.nodup_iff.2 (both_nodup hA hB)) (fun u hu v hv => both_names hA hB u (hp.mem_iff.1 hu) v (hp.mem_iff.1 hv)) hs) (mrg_srt hA hB) fun _ => hp.mem_iff.trans (mrg_perm a b).mem_iff.symm
theorem mem_mrg {a b : List Wk} (hA : Names a) (hc : clash a b = false) (v : Wk) : v ∈ mrgL a b ↔ v ∈ a ∨ v ∈ b := (mrg_perm a b).mem_iff.trans (mem_both hA hc v)
/-- What Merge says. -/
def mrgE (a b : List Wk) : Int := if clash a b then 8 else if 400 < (bothW a b).length then 5 else 0
def mrgF (a b : List Wk) : Int := if chkL a ≠ 0 then chkL a else if chkL b ≠ 0 then chkL b else mrgE a b
def mrgV (a b : List Wk) : List Wk := if mrgF a b = 0 then mrgL a b else []
theorem mrg_len (a b : List Wk) : (mrgL a b).length = (bothW a b).length := (mrg_perm a b).length_eq
theorem wkr_mem {l : List Wk} {k : Int} {v : Wk} : v ∈ wkr l k ↔ v ∈ l ∧ v.wk = k := by unfold wkr; rw [List.mem_filter, decide_eq_true_eq]
theorem wkr_srt {l : List Wk} (h : SrtW l) (k : Int) : SrtW (wkr l k) := List.Pairwise.sublist List.filter_sublist h
theorem wkr_big {a b : List Wk} (ha : Rec a) (hb : Rec b) (hc : clash a b = false) {k : Int} (hl : (wkr b k).length ≤ (wkr a k).length) {v : Wk} (hv : v ∈ wkr b k) : v ∈ wkr a k := by
  obtain ⟨j, hj⟩ := List.getElem?_of_mem hv
  have hjl := (List.getElem?_eq_some_iff.1 hj).1
  obtain ⟨u, hu⟩ : ∃ u, (wkr a k)[j]? = some u := ⟨_, List.getElem?_eq_getElem (by omega)⟩
  have h1 : (nums (wkr b k).length)[j]? = some v.num := by rw [← hb.num k, List.getElem?_map, hj]; rfl
  have h2 : (nums (wkr a k).length)[j]? = some u.num := by rw [← ha.num k, List.getElem?_map, hu]; rfl
  have hu' := wkr_mem.1 (List.mem_of_getElem? hu)
  have hv' := wkr_mem.1 hv
  have he : u.nm = v.nm := by
    unfold Wk.nm
    rw [Prod.mk.injEq]
    have := (nums_at h1).2
    have := (nums_at h2).2
    omega
  have := (clash_no ha.names).1 hc u hu'.1 v hv'.1 he
  subst this
  exact List.mem_of_getElem? hu
theorem mrg_rec {a b : List Wk} (ha : Rec a) (hb : Rec b) (h : mrgE a b = 0) : Rec (mrgL a b) := by
  unfold mrgE at h
  cases hc : clash a b
  · rw [hc] at h
    have hl : (bothW a b).length ≤ 400 := by
      by_cases h1 : 400 < (bothW a b).length
      · simp [h1] at h
      · omega
    have hs := mrg_srt ha.names hb.names
    have hm := mem_mrg ha.names hc
    refine ⟨by rw [mrg_len]; exact hl, fun v hv => ?_, hs, fun k => ?_⟩
    · rcases (hm v).1 hv with hv | hv
      · exact ha.ok v hv
      · exact hb.ok v hv
    · rcases Nat.le_total (wkr b k).length (wkr a k).length with h1 | h1
      · have : wkr (mrgL a b) k = wkr a k := srt_ext (wkr_srt hs k) (wkr_srt ha.srt k) fun v => by
          rw [wkr_mem, hm v]
          constructor
          · rintro ⟨h2 | h2, h3⟩
            · exact wkr_mem.2 ⟨h2, h3⟩
            · exact wkr_big ha hb hc h1 (wkr_mem.2 ⟨h2, h3⟩)
          · exact fun h2 => ⟨.inl (wkr_mem.1 h2).1, (wkr_mem.1 h2).2⟩
        rw [this]
        exact ha.num k
      · have : wkr (mrgL a b) k = wkr b k := srt_ext (wkr_srt hs k) (wkr_srt hb.srt k) fun v => by
          rw [wkr_mem, hm v]
          constructor
          · rintro ⟨h2 | h2, h3⟩
            · exact wkr_big hb ha (by rw [clash_comm hb.names ha.names]; exact hc) h1 (wkr_mem.2 ⟨h2, h3⟩)
            · exact wkr_mem.2 ⟨h2, h3⟩
          · exact fun h2 => ⟨.inr (wkr_mem.1 h2).1, (wkr_mem.1 h2).2⟩
        rw [this]
        exact hb.num k
  · rw [hc] at h
    cases h

/-! ### the laws of merging -/
theorem mrgF_rec {a b : List Wk} (ha : Rec a) (hb : Rec b) : mrgF a b = mrgE a b := by unfold mrgF; rw [rec_chk ha, rec_chk hb]; rfl
theorem mrgE_self {a : List Wk} (ha : Rec a) : mrgE a a = 0 ∧ mrgL a a = a := by
  have hc : clash a a = false := (clash_no ha.names).2 fun u hu w hw he => ha.names.inj hu hw he
  have hL : mrgL a a = a := srt_ext (mrg_srt ha.names ha.names) ha.srt fun v => by rw [mem_mrg ha.names hc, or_self]
  refine ⟨?_, hL⟩
  unfold mrgE
  rw [hc, ← mrg_len, hL]
  have := ha.len
  simp
  omega
theorem mrg_comm {a b : List Wk} (ha : Rec a) (hb : Rec b) (hc : clash a b = false) : mrgL a b = mrgL b a :=
  srt_ext (mrg_srt ha.names hb.names) (mrg_srt hb.names ha.names) fun v => by
    rw [mem_mrg ha.names hc, mem_mrg hb.names (by rw [clash_comm hb.names ha.names]; exact hc), or_comm]
theorem mrgE_comm {a b : List Wk} (ha : Rec a) (hb : Rec b) : mrgE a b = mrgE b a := by
  unfold mrgE
  rw [clash_comm hb.names ha.names]
  cases hc : clash a b
  · rw [← mrg_len, ← mrg_len, mrg_comm ha hb hc]
  · rfl
theorem mrgE_zero {a b : List Wk} (h : mrgE a b = 0) : clash a b = false := by
  unfold mrgE at h
  cases hc : clash a b
  · rfl
  · rw [hc] at h; cases h
theorem mrg_assoc {a b c : List Wk} (ha : Rec a) (hb : Rec b) (hc : Rec c) (h1 : mrgE a b = 0) (h2 : mrgE b c = 0) :
    mrgE (mrgL a b) c = mrgE a (mrgL b c) ∧ (mrgE (mrgL a b) c = 0 → mrgL (mrgL a b) c = mrgL a (mrgL b c)) := by
  have rab := mrg_rec ha hb h1
  have rbc := mrg_rec hb hc h2
  have k1 := mrgE_zero h1
  have k2 := mrgE_zero h2
  have m1 := mem_mrg ha.names k1
  have m2 := mem_mrg hb.names k2
  have e : clash (mrgL a b) c = clash a (mrgL b c) := by
    refine bool_of_false ?_
    rw [clash_no rab.names, clash_no ha.names]
    constructor
    · intro h u hu w hw he
      rcases (m2 w).1 hw with hw | hw
      · exact (clash_no ha.names).1 k1 u hu w hw he
      · exact h u ((m1 u).2 (.inl hu)) w hw he
    · intro h u hu w hw he
      rcases (m1 u).1 hu with hu | hu
      · exact h u hu w ((m2 w).2 (.inr hw)) he
      · exact (clash_no hb.names).1 k2 u hu w hw he
  have key : clash (mrgL a b) c = false → mrgL (mrgL a b) c = mrgL a (mrgL b c) := fun hcl =>
    srt_ext (mrg_srt rab.names hc.names) (mrg_srt ha.names rbc.names) fun v => by
      rw [mem_mrg rab.names hcl, mem_mrg (b := mrgL b c) ha.names (by rw [← e]; exact hcl), m1, m2, or_assoc]
  refine ⟨?_, fun h => key (mrgE_zero h)⟩
  unfold mrgE
  rw [← e]
  cases hcl : clash (mrgL a b) c
  · rw [← mrg_len, ← mrg_len, key hcl]
  · rfl
end Go.Proofs.Ytjbpdimepckmfaa
