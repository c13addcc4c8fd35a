/- Chapter 09: the nest lies by shelves, and no candidate has fewer plates. Plain. · Chapter 09: the order of cuts is total; what the parts of the sort are wanted for: plain. · Chapter 09: the sort by parts: plain. -/
import Derived.Sort.AssemblyPlain
import Derived.Test.YtamjhpdgclbfgaaXAcD
import Derived.Test.YtamjhpdgclbfgaaXCspM
import Derived.Test.YtamjhpdgclbfgaaXAcCM
namespace Go.Proofs.Ytamjhpdgclbfgaa

/-! ### the best of all candidates -/
def LeB (R : RB) (v : Int) : Prop := ∃ S ON n h, R = some (S, ON, n, h) ∧ n ≤ v
def GoodB (P : Pt) (l : List Ct) (R : RB) : Prop := ∀ S ON n h, R = some (S, ON, n, h) → rankV P l S ON = some (n, h)
theorem nstep_good {P : Pt} {l : List Ct} {S ON : List Nat} {R : RB} (h : GoodB P l R) : GoodB P l (nstep P l S R ON) := by
  unfold nstep
  cases hr : rankV P l S ON with
  | none => exact h
  | some q =>
    obtain ⟨n, d⟩ := q
    dsimp only
    cases R with
    | none =>
      intro S' ON' n' h' e
      cases e
      exact hr
    | some r =>
      obtain ⟨S', ON', c, d'⟩ := r
      dsimp only
      split
      · intro S' ON' n' h' e
        cases e
        exact hr
      · exact h
theorem bet_le {S ON : List Nat} {n h : Int} {S' ON' : List Nat} {c d : Int} (hb : betB S ON n h S' ON' c d = true) : n ≤ c := by
  unfold betB at hb
  simp only [Bool.or_eq_true, Bool.and_eq_true, decide_eq_true_eq] at hb
  omega
theorem bet_ge {S ON : List Nat} {n h : Int} {S' ON' : List Nat} {c d : Int} (hb : ¬ betB S ON n h S' ON' c d = true) : c ≤ n := by
  unfold betB at hb
  simp only [Bool.or_eq_true, Bool.and_eq_true, decide_eq_true_eq] at hb
  omega
theorem nstep_le {P : Pt} {l : List Ct} {S ON : List Nat} {R : RB} {v : Int} (h : LeB R v) : LeB (nstep P l S R ON) v := by
  obtain ⟨S', ON', c, d, rfl, hc⟩ := h
  unfold nstep
  cases hr : rankV P l S ON with
  | none => exact ⟨_, _, _, _, rfl, hc⟩
  | some q =>
    obtain ⟨n, d'⟩ := q
    dsimp only
    split
    · rename_i hb
      have := bet_le hb
      exact ⟨_, _, _, _, rfl, by omega⟩
    · exact ⟨_, _, _, _, rfl, hc⟩
theorem nstep_new_le {P : Pt} {l : List Ct} {S ON : List Nat} {R : RB} {v d : Int} (h : rankV P l S ON = some (v, d)) : LeB (nstep P l S R ON) v := by
  unfold nstep
  rw [h]
  dsimp only
  cases R with
  | none => exact ⟨_, _, _, _, rfl, Int.le_refl _⟩
  | some r =>
    obtain ⟨S', ON', c, d'⟩ := r
    dsimp only
    split
    · exact ⟨_, _, _, _, rfl, Int.le_refl _⟩
    · rename_i hb
      exact ⟨_, _, _, _, rfl, bet_ge hb⟩
theorem fold_inv {α β : Type} {Q : β → Prop} {f : β → α → β} (hf : ∀ b a, Q b → Q (f b a)) : ∀ (L : List α) (b : β), Q b → Q (L.foldl f b)
  | [], _, h => h
  | a :: L, b, h => fold_inv hf L _ (hf b a h)
theorem fold_hit {α β : Type} {Q : β → Prop} {f : β → α → β} (hf : ∀ b a, Q b → Q (f b a)) {x : α} (hx : ∀ b, Q (f b x)) : ∀ (L : List α) (b : β), x ∈ L → Q (L.foldl f b)
  | [], _, h => by cases h
  | a :: L, b, h => by
    rcases List.mem_cons.1 h with rfl | h
    · exact fold_inv hf L _ (hx b)
    · exact fold_hit hf hx L _ h
theorem nestR_good (P : Pt) (l : List Ct) : GoodB P l (nestR P l) :=
  fold_inv (fun _ _ h => fold_inv (fun _ _ h => nstep_good h) _ _ h) _ _ fun _ _ _ _ e => by cases e
theorem nestR_le {P : Pt} {l : List Ct} {S ON : List Nat} {v d : Int} (hS : S ∈ grpR l.length) (hO : ON ∈ grpR (cntF S)) (h : rankV P l S ON = some (v, d)) : LeB (nestR P l) v :=
  fold_hit (Q := fun R => LeB R v) (f := fun B S => (grpR (cntF S)).foldl (nstep P l S) B) (fun _ a h => fold_inv (Q := fun R => LeB R v) (f := nstep P l a) (fun _ _ h' => nstep_le h') _ _ h) (x := S) (fun _ => fold_hit (Q := fun R => LeB R v) (f := nstep P l S) (fun _ _ h' => nstep_le h') (x := ON) (fun _ => nstep_new_le h) _ _ hO) _ _ hS
/-! ### its spots -/
theorem tot_nn {K : Int} (hK : 0 ≤ K) {o : Nat} : ∀ {r : List (Nat × Int)}, (∀ x ∈ r, 0 ≤ x.2) → 0 ≤ tot K r o
  | [], _ => by simp [tot]
  | x :: r, h => by
    rw [tot_cons]
    have := tot_nn hK (o := o) (r := r) fun y hy => h y (by simp [hy])
    have := h x (by simp)
    split <;> omega
/-- Of two of one place the later lies behind the earlier. -/
theorem tot_sep {K : Int} (hK : 0 ≤ K) {r : List (Nat × Int)} (hr : ∀ x ∈ r, 0 ≤ x.2) {i j o : Nat} {v : Int} (hij : i < j) (hi : r[i]? = some (o, v)) : tot K (r.take i) o + v + K ≤ tot K (r.take j) o := by
  obtain ⟨d, rfl⟩ : ∃ d, j = i + 1 + d := ⟨j - i - 1, by omega⟩
  induction d with
  | zero =>
    rw [Nat.add_zero, List.take_add_one, hi]
    simp only [Option.toList]
    rw [tot_snoc, if_pos rfl]
    exact Int.le_refl _
  | succ d ih =>
    have h := ih (by omega)
    refine Int.le_trans h ?_
    rw [show i + 1 + (d + 1) = (i + 1 + d) + 1 by omega]
    conv => rhs; rw [List.take_add_one]
    cases hc : r[i + 1 + d]? with
    | none => simp
    | some x =>
      simp only [Option.toList]
      rw [tot_snoc]
      have := hr x (List.mem_of_getElem? hc)
      split <;> omega
theorem tot_all {K : Int} (hK : 0 ≤ K) {r : List (Nat × Int)} (hr : ∀ x ∈ r, 0 ≤ x.2) {i o : Nat} {v : Int} (hi : r[i]? = some (o, v)) : tot K (r.take i) o + v + K ≤ tot K r o := by
  have h := tot_sep hK hr (j := r.length) (by exact (List.getElem?_eq_some_iff.1 hi).1) hi
  rwa [List.take_of_length_le (Nat.le_refl _)] at h
theorem fits_le {M : Int} {U : List Int} (h : fitsM M U = true) {o : Nat} (ho : o < U.length) : U.getD o 0 ≤ M := by
  unfold fitsM at h
  rw [List.all_eq_true] at h
  simpa using h _ (mem_getD ho)
theorem hrun_ge : ∀ (S : List Nat) (xs H : List Int) (m : Nat), H.length = m → RG m S → S.length = xs.length → (∀ o, o < m → H.getD o 0 ≤ (hrun H S xs).getD o 0) ∧ ∀ i, i < S.length → xs.getD i 0 ≤ (hrun H S xs).getD (S.getD i 0) 0
  | [], _, H, m, _, _, _ => ⟨fun o _ => by simp only [hrun]; exact Int.le_refl _, fun i hi => by simp at hi⟩
  | k :: S, [], H, m, _, _, hl => by simp at hl
  | k :: S, x :: xs, H, m, hh, hg, hl => by
    have hkm := hg.1
    simp only [hrun]
    by_cases hk : k < H.length
    · rw [if_pos hk]
      obtain ⟨h1, h2⟩ := hrun_ge S xs (H.set k (max (H.getD k 0) x)) (max m (k + 1)) (by rw [List.length_set]; omega) hg.2 (by simpa using hl)
      have h3 : ∀ o, o < m → H.getD o 0 ≤ (H.set k (max (H.getD k 0) x)).getD o 0 := fun o _ => by
        rw [set_getD _ _ _ _ hk]
        split
        · rename_i e
          subst e
          omega
        · exact Int.le_refl _
      refine ⟨fun o ho => Int.le_trans (h3 o ho) (h1 o (by omega)), fun i hi => ?_⟩
      match i, hi with
      | 0, _ =>
        have h4 := h1 k (by omega)
        rw [set_getD _ _ _ _ hk, if_pos rfl] at h4
        simp only [List.getD_cons_zero]
        omega
      | i + 1, hi => simpa using h2 i (by simpa using hi)
    · have hke : k = m := by omega
      rw [if_neg hk]
      obtain ⟨h1, h2⟩ := hrun_ge S xs (H ++ [x]) (max m (k + 1)) (by simp; omega) hg.2 (by simpa using hl)
      refine ⟨fun o ho => ?_, fun i hi => ?_⟩
      · have := h1 o (by omega)
        rwa [getD_left (by omega)] at this
      · match i, hi with
        | 0, _ =>
          have h4 := h1 k (by omega)
          have e1 : (H ++ [x]).getD k 0 = x := by
            rw [List.getD_eq_getElem?_getD, List.getElem?_append_right (by omega), hke, ← hh]
            simp
          rw [e1] at h4
          simpa using h4
        | i + 1, hi => simpa using h2 i (by simpa using hi)
theorem cnt_rg : ∀ (S : List Nat) (m : Nat), RG m S → max m (cntF S) ≤ m + S.length
  | [], m, _ => by simp [cntF]
  | k :: S, m, h => by
    have := cnt_rg S _ h.2
    have := h.1
    rw [cntF_cons]
    simp only [List.length_cons]
    omega
theorem acZip_at {S : List Nat} {xs : List Int} {i : Nat} (h1 : i < S.length) (h2 : i < xs.length) : (S.zip xs)[i]? = some (S.getD i 0, xs.getD i 0) := by
  refine List.getElem?_zip_eq_some.2 ⟨?_, ?_⟩
  · show S[i]? = some (S.getD i 0)
    rw [List.getD_eq_getElem?_getD, List.getElem?_eq_getElem h1]
    rfl
  · show xs[i]? = some (xs.getD i 0)
    rw [List.getD_eq_getElem?_getD, List.getElem?_eq_getElem h2]
    rfl
theorem zip_nn {S : List Nat} {xs : List Int} (h : ∀ x ∈ xs, 0 ≤ x) : ∀ x ∈ S.zip xs, 0 ≤ x.2 := fun _ hx => h _ (List.of_mem_zip hx).2
theorem nest_shv {P : Pt} {l : List Ct} (hj : JobP P l) (hh0 : 0 ≤ P.h) : ∃ ON, (∃ m PP YY HH, Shv P l (nestF P l) m PP YY HH) ∧ plF (nestF P l) ≤ (cntF ON : Nat) ∧ ∀ S' ON' v d, S' ∈ grpR l.length → ON' ∈ grpR (cntF S') → rankV P l S' ON' = some (v, d) → ((cntF ON : Nat) : Int) ≤ v := by
  have hB := nest_rel hj
  obtain ⟨S, ON, n, hh, hR, hSl, hSg, hOl, hgt, hHl, hN⟩ := nest_ref hj
  rw [hR] at hB
  obtain ⟨_, _, _, _, hOg, _⟩ := hB
  have hK := hj.k
  obtain ⟨H, hH⟩ : ∃ H, hrun [] S (l.map Ct.h) = H := ⟨_, rfl⟩
  have hgt2 := hgt_eq hj hSg hSl
  have hfw : fitsM P.w (run P.k [] S (l.map Ct.w)) = true := by
    cases hc : fitsM P.w (run P.k [] S (l.map Ct.w)) with
    | true => rfl
    | false => rw [hc, hgt] at hgt2; cases hgt2
  obtain ⟨_, hHp⟩ := hrun_facts (M := P.h) S (l.map Ct.h) [] 0 rfl hSg (by simpa using hSl) (fun h hh => by cases hh) (fun x hx => by
    obtain ⟨c, hc, rfl⟩ := List.mem_map.1 hx
    exact (hj.c c hc).2.2)
  have hge := (hrun_ge S (l.map Ct.h) [] 0 rfl hSg (by simpa using hSl)).2
  rw [hH] at hHl hHp hgt hge hN
  have hOl' : ON.length = H.length := by rw [hOl, hHl]
  have hrk := nestR_good P l _ _ _ _ hR
  have huse := use_eq (H := H) hK (fun h hh => (hHp h hh).1) hOg hOl'
  have hfh : fitsM P.h (run P.k [] ON H) = true := by
    cases hc : fitsM P.h (run P.k [] ON H) with
    | true => rfl
    | false =>
      rw [hc] at huse
      unfold rankV at hrk
      rw [hgt] at hrk
      simp only [] at hrk
      rw [huse] at hrk
      cases hrk
  have hn : n = ((cntF ON : Nat) : Int) := by
    rw [if_pos hfh] at huse
    unfold rankV at hrk
    rw [hgt] at hrk
    simp only [] at hrk
    rw [huse] at hrk
    simp only [Option.some.injEq, Prod.mk.injEq] at hrk
    rw [← hrk.1, run_len P.k ON _ [] 0 rfl hOg hOl']
    simp
  have hwx : ∀ x ∈ l.map Ct.w, 0 ≤ x := fun x hx => by
    obtain ⟨c, hc, rfl⟩ := List.mem_map.1 hx
    have := hj.c c hc
    omega
  have hHx : ∀ x ∈ H, 0 ≤ x := fun x hx => by
    have := hHp x hx
    omega
  have hSw : S.length = (l.map Ct.w).length := by simpa using hSl
  have hwid : ∀ k, k < cntF S → tot P.k (S.zip (l.map Ct.w)) k ≤ P.w + P.k := fun k hk => by
    have h1 := fits_le hfw (o := k) (by rw [run_len P.k S _ [] 0 rfl hSg hSw]; omega)
    rw [run_tot S _ [] 0 k rfl hSg hSw (by omega), if_neg (by omega)] at h1
    omega
  have hhei : ∀ p, tot P.k (ON.zip H) p ≤ P.h + P.k := fun p => by
    by_cases hp : p < cntF ON
    · have h1 := fits_le hfh (o := p) (by rw [run_len P.k ON _ [] 0 rfl hOg hOl']; omega)
      rw [run_tot ON _ [] 0 p rfl hOg hOl' (by omega), if_neg (by omega)] at h1
      omega
    · have h0 : ∀ (r : List (Nat × Int)), (∀ x ∈ r, x.1 < cntF ON) → tot P.k r p = 0 := fun r => by
        induction r with
        | nil => intro _; simp [tot]
        | cons x r ih =>
          intro h
          have := h x (by simp)
          rw [tot_cons, ih fun y hy => h y (by simp [hy]), if_neg (by omega)]
          rfl
      rw [h0 _ fun x hx => cntF_lt _ (List.of_mem_zip hx).1]
      omega
  have hSi : ∀ i, i < l.length → S.getD i 0 < cntF S := fun i hi => cntF_lt _ (by rw [List.getD_eq_getElem?_getD, List.getElem?_eq_getElem (by omega)]; exact List.getElem_mem _)
  have hOi : ∀ k, k < cntF S → ON.getD k 0 < cntF ON := fun i hi => cntF_lt _ (by rw [List.getD_eq_getElem?_getD, List.getElem?_eq_getElem (by omega)]; exact List.getElem_mem _)
  have hcS : cntF S ≤ l.length := by have := cnt_rg S 0 hSg; omega
  have hcO : cntF ON ≤ cntF S := by have := cnt_rg ON 0 hOg; omega
  have hat : ∀ i, i < l.length → (nestF P l).getD i default = spoR P.k l S ON (ysR P.k ON H) i := fun i hi => by
    rw [hN]
    unfold spotsR
    rw [List.getD_eq_getElem?_getD, List.getElem?_map, List.getElem?_range hi]
    rfl
  have hYk : ∀ k, k < cntF S → (ysR P.k ON H).getD k 0 = tot P.k ((ON.zip H).take k) (ON.getD k 0) := fun k hk => by
    unfold ysR
    rw [List.getD_eq_getElem?_getD, List.getElem?_map, List.getElem?_range (by omega)]
    rfl
  refine ⟨ON, ⟨cntF S, fun k => ON.getD k 0, fun k => (ysR P.k ON H).getD k 0, fun k => H.getD k 0, ?_⟩, ?_, fun S' ON' v d h1 h2 h3 => ?_⟩
  · constructor
    · rw [hN]; simp [spotsR]
    · exact hcS
    · intro k hk
      have := hOi k hk
      omega
    · intro i hi
      refine ⟨S.getD i 0, hSi i hi, ?_⟩
      rw [hat i hi]
      have h1 := tot_all hK (zip_nn (S := S) hwx) (acZip_at (S := S) (xs := l.map Ct.w) (i := i) (by omega) (by simpa using hi))
      have h2 := hwid _ (hSi i hi)
      have h3 := tot_nn hK (o := S.getD i 0) (r := (S.zip (l.map Ct.w)).take i) fun x hx => zip_nn hwx x (List.mem_of_mem_take hx)
      rw [wid_getD hi] at h1
      have h4 := hge i (by omega)
      rw [hei_getD hi] at h4
      exact ⟨rfl, rfl, rfl, h3, by show tot P.k _ _ + _ ≤ _; omega, h4⟩
    · intro i j hi hjl hij he
      rw [hat i hi, hat j hjl] at he ⊢
      have he : S.getD i 0 = S.getD j 0 := by
        have : ((S.getD i 0 : Nat) : Int) = ((S.getD j 0 : Nat) : Int) := he
        omega
      show tot P.k _ _ + _ + _ ≤ tot P.k _ _ ∨ tot P.k _ _ + _ + _ ≤ tot P.k _ _
      rcases Nat.lt_or_gt_of_ne hij with h | h
      · left
        have h1 := tot_sep hK (zip_nn (S := S) hwx) h (acZip_at (S := S) (xs := l.map Ct.w) (i := i) (by omega) (by simpa using hi))
        rw [wid_getD hi] at h1
        rw [← he]
        exact h1
      · right
        have h1 := tot_sep hK (zip_nn (S := S) hwx) h (acZip_at (S := S) (xs := l.map Ct.w) (i := j) (by omega) (by simpa using hjl))
        rw [wid_getD hjl] at h1
        rw [he]
        exact h1
    · intro k hk
      have hkH : k < H.length := by omega
      have h1 := tot_all hK (zip_nn (S := ON) hHx) (acZip_at (S := ON) (xs := H) (i := k) (by omega) hkH)
      have h2 := hhei (ON.getD k 0)
      have h3 := tot_nn hK (o := ON.getD k 0) (r := (ON.zip H).take k) fun x hx => zip_nn hHx x (List.mem_of_mem_take hx)
      have h4 := hHx _ (mem_getD hkH)
      rw [hYk k hk]
      omega
    · intro k k' hk hk' hne he
      have he : ON.getD k 0 = ON.getD k' 0 := he
      rw [hYk k hk, hYk k' hk']
      rcases Nat.lt_or_gt_of_ne hne with h | h
      · left
        have h1 := tot_sep hK (zip_nn (S := ON) hHx) h (acZip_at (S := ON) (xs := H) (i := k) (by omega) (by omega))
        rw [← he]
        exact h1
      · right
        have h1 := tot_sep hK (zip_nn (S := ON) hHx) h (acZip_at (S := ON) (xs := H) (i := k') (by omega) (by omega))
        rw [he]
        exact h1
    · intro k hk
      have h1 := hwid k hk
      have e : S = (List.range l.length).map fun i => S.getD i 0 := by
        refine List.ext_getElem? fun i => ?_
        rw [List.getElem?_map]
        by_cases hi : i < l.length
        · rw [List.getElem?_range hi, List.getElem?_eq_getElem (show i < S.length by omega)]
          simp only [Option.map_some]
          rw [List.getD_eq_getElem?_getD, List.getElem?_eq_getElem (show i < S.length by omega)]
          rfl
        · rw [List.getElem?_eq_none (by omega), List.getElem?_eq_none (by simp; omega)]
          rfl
      rw [e, tot_range _ _ _ _ (by simp)] at h1
      have e2 : ((List.range l.length).map fun i => if ((nestF P l).getD i default).s = (k : Nat) then (l.getD i default).w + P.k else 0) = (List.range l.length).map fun i => if S.getD i 0 = k then (l.map Ct.w).getD i 0 + P.k else 0 := List.map_congr_left fun i hi => by
        have hi := List.mem_range.1 hi
        rw [hat i hi, wid_getD hi]
        show (if ((S.getD i 0 : Nat) : Int) = _ then _ else _) = _
        by_cases hc : S.getD i 0 = k
        · rw [if_pos (by omega), if_pos hc]
        · rw [if_neg (by omega), if_neg hc]
      rw [e2]
      exact h1
    · intro k hk
      have h1 := rg_mem S 0 k hSg (by omega) (by omega)
      obtain ⟨i, hi⟩ := List.getElem?_of_mem h1
      have hil := (List.getElem?_eq_some_iff.1 hi).1
      refine ⟨i, by omega, ?_⟩
      rw [hat i (by omega)]
      show ((S.getD i 0 : Nat) : Int) = _
      rw [List.getD_eq_getElem?_getD, hi]
      rfl
    · intro p
      have h1 := hhei p
      have e : ON = (List.range (cntF S)).map fun i => ON.getD i 0 := by
        refine List.ext_getElem? fun i => ?_
        rw [List.getElem?_map]
        by_cases hi : i < cntF S
        · rw [List.getElem?_range hi, List.getElem?_eq_getElem (show i < ON.length by omega)]
          simp only [Option.map_some]
          rw [List.getD_eq_getElem?_getD, List.getElem?_eq_getElem (show i < ON.length by omega)]
          rfl
        · rw [List.getElem?_eq_none (by omega), List.getElem?_eq_none (by simp; omega)]
          rfl
      rw [e, tot_range _ _ _ _ (by omega)] at h1
      exact h1
  · unfold plF
    refine plF_le _ _ (by omega) fun s hs => ?_
    obtain ⟨i, hi⟩ := List.getElem?_of_mem hs
    have hil := (List.getElem?_eq_some_iff.1 hi).1
    have hlen : (nestF P l).length = l.length := by rw [hN]; simp [spotsR]
    have e : (nestF P l).getD i default = s := by
      rw [List.getD_eq_getElem?_getD, hi]
      rfl
    rw [← e, hat i (by omega)]
    show ((ON.getD _ 0 : Nat) : Int) + 1 ≤ _
    have := hOi _ (hSi i (by omega))
    omega
  · obtain ⟨S2, O2, n2, d2, e, hle⟩ := nestR_le h1 h2 h3
    rw [hR] at e
    cases e
    omega
end Go.Proofs.Ytamjhpdgclbfgaa

namespace Go.Proofs.Ytamjhpdgclbfgaa
open Go.Sort

def ltB (l : List Ct) (x y : Nat) : Bool := decide (befF l x y < 0)
theorem befF_neg (l : List Ct) (x y : Nat) : befF l x y < 0 ↔ (l.getD y default).h < (l.getD x default).h ∨ ((l.getD y default).h = (l.getD x default).h ∧ ((l.getD y default).w < (l.getD x default).w ∨ ((l.getD y default).w = (l.getD x default).w ∧ x < y))) := by
  unfold befF
  rw [orL_two, orL_two, orL_two, cmpI_neg, cmpI_neg, cmpI_neg, cmpI_zero, cmpI_zero]
  constructor
  · rintro (h | ⟨h, h' | ⟨h', h'' | h''⟩⟩)
    · exact .inl h
    · exact .inr ⟨h, .inl h'⟩
    · exact .inr ⟨h, .inr ⟨h', by omega⟩⟩
    · exact absurd h''.2 orL_nil
  · rintro (h | ⟨h, h' | ⟨h', h''⟩⟩)
    · exact .inl h
    · exact .inr ⟨h, .inl h'⟩
    · exact .inr ⟨h, .inr ⟨h', .inl (by omega)⟩⟩
theorem ltB_swo (l : List Ct) : SWO (ltB l) where
  irrefl x := by
    unfold ltB
    rw [decide_eq_false_iff_not, befF_neg]
    omega
  trans x y z := by
    unfold ltB
    rw [decide_eq_true_iff, decide_eq_true_iff, decide_eq_true_iff, befF_neg, befF_neg, befF_neg]
    omega
  ntrans x y z := by
    unfold ltB
    rw [decide_eq_false_iff_not, decide_eq_false_iff_not, decide_eq_false_iff_not, befF_neg, befF_neg, befF_neg]
    omega
theorem ltB_total (l : List Ct) (x y : Nat) (h1 : ltB l x y = false) (h2 : ltB l y x = false) : x = y := by
  unfold ltB at h1 h2
  rw [decide_eq_false_iff_not, befF_neg] at h1 h2
  omega
theorem sorted_one {lt : Nat → Nat → Bool} {a : Nat} {d : Array Nat} : SortedIn lt a (a + 1) d := fun i j h1 h2 h3 => by omega
theorem rev_on {a b i j : Nat} {d dj : Array Nat} (ha : a ≤ i) (hij : i < j) (hj : j + 1 ≤ b) (hb : b ≤ d.size) (h : PermIn a b d dj) : PermIn a b d (swp dj i j) :=
  permIn_trans _ _ _ _ _ h (swp_permIn _ _ _ _ _ ha (by omega) (by omega) (by omega) (by rw [h.1]; exact hb))
end Go.Proofs.Ytamjhpdgclbfgaa

namespace Go.Proofs.Ytamjhpdgclbfgaa
open Go.Sort

section
variable {lt : Nat → Nat → Bool}
/-- What a round of pdqsort leaves open. -/
structure PdI (lt : Nat → Nat → Bool) (fa fb : Nat) (d0 : Array Nat) (a b : Nat) (d : Array Nat) : Prop where
  ha : fa ≤ a
  hab : a ≤ b
  hb : b ≤ fb
  hs : fb ≤ d.size
  perm : PermIn fa fb d0 d
  nd : d.toList.Nodup
  bel : Below lt a b d
  fin : ∀ R, PermIn a b d R → SortedIn lt a b R → SortedIn lt fa fb R
theorem permIn_nodup {a b : Nat} {d d' : Array Nat} (hb : b ≤ d.size) (h : PermIn a b d d') (hn : d.toList.Nodup) : d'.toList.Nodup := by
  have h0 := (permIn_mono d d' a b 0 d.size (by omega) hb (Nat.le_refl _) h).2.2
  rw [show d.extract 0 d.size = d by simp, show d'.extract 0 d.size = d' by rw [← h.1]; simp] at h0
  exact h0.nodup_iff.2 hn
theorem PdI.start {a b : Nat} {d : Array Nat} (hab : a ≤ b) (hs : b ≤ d.size) (hn : d.toList.Nodup) (hB : Below lt a b d) : PdI lt a b d a b d :=
  ⟨Nat.le_refl _, hab, Nat.le_refl _, hs, permIn_refl _ _ _, hn, hB, fun _ _ h => h⟩
theorem PdI.to {fa fb a b : Nat} {d0 d d' : Array Nat} (h : PdI lt fa fb d0 a b d) (hp : PermIn a b d d') : PdI lt fa fb d0 a b d' :=
  ⟨h.ha, h.hab, h.hb, by rw [hp.1]; exact h.hs, permIn_trans _ _ _ _ _ h.perm (permIn_mono _ _ a b fa fb h.ha h.hb h.hs hp), permIn_nodup (Nat.le_trans h.hb h.hs) hp h.nd, h.bel.perm (Nat.le_trans h.hb h.hs) hp, fun R h1 h2 => h.fin R (permIn_trans _ _ _ _ _ hp h1) h2⟩
theorem PdI.out {fa fb a b : Nat} {d0 d d' : Array Nat} (h : PdI lt fa fb d0 a b d) (hp : PermIn a b d d') (hso : SortedIn lt a b d') : PermIn fa fb d0 d' ∧ SortedIn lt fa fb d' :=
  ⟨(h.to hp).perm, h.fin d' hp hso⟩
theorem PdI.strict {fa fb a b p : Nat} {d0 d : Array Nat} (ht : ∀ x y, lt x y = false → lt y x = false → x = y) (h : PdI lt fa fb d0 a b d) (ha : 0 < a) (h1 : a ≤ p) (h2 : p < b) : lt d[a - 1]! d[p]! = true := by
  rcases h.bel with h0 | hB
  · omega
  cases hc : lt d[a - 1]! d[p]! with
  | true => rfl
  | false =>
    exfalso
    have he := ht _ _ hc (hB p h1 h2)
    have hs := h.hs
    have hb := h.hb
    have hn := h.nd
    rw [getElem!_pos d (a - 1) (by omega), getElem!_pos d p (by omega)] at he
    exact List.pairwise_iff_getElem.1 hn (a - 1) p (by simp; omega) (by simp; omega) (by omega) (by simpa using he)
theorem PdI.part {fa fb a b p mid : Nat} {ap : Bool} {d0 d d4 : Array Nat} (hS : SWO lt) (h : PdI lt fa fb d0 a b d) (h1 : a ≤ p) (h2 : p < b) (hx : partition lt d a b p = (mid, ap, d4)) :
    a ≤ mid ∧ mid < b ∧ b ≤ d4.size ∧ d4.toList.Nodup ∧ Below lt a mid d4 ∧ Below lt (mid + 1) b d4 ∧
    (∀ L, PermIn a mid d4 L → SortedIn lt a mid L → PdI lt fa fb d0 (mid + 1) b L) ∧ (∀ L, PermIn (mid + 1) b d4 L → SortedIn lt (mid + 1) b L → PdI lt fa fb d0 a mid L) := by
  have hbs : b ≤ d.size := Nat.le_trans h.hb h.hs
  obtain ⟨m1, m2, m3, m4, m5, m6, m7⟩ := round_part hS (partition_holds lt) h1 h2 hbs h.bel hx
  have hp4 : PermIn a b d d4 := by
    have := (partition_holds lt hS d a b p h1 h2 hbs).2.2.1
    rw [hx] at this
    exact this
  have h4 := h.to hp4
  have hb4 : b ≤ d4.size := by rw [m3]; exact hbs
  refine ⟨m1, m2, hb4, h4.nd, m4, m5, fun L hL sL => ?_, fun L hL sL => ?_⟩
  · obtain ⟨q1, q2⟩ := m6 L hL sL
    have hL' := permIn_mono _ _ a mid a b (Nat.le_refl _) (by omega) hb4 hL
    have h5 := h4.to hL'
    exact ⟨by have := h.ha; omega, by omega, h.hb, h5.hs, h5.perm, h5.nd, q1, fun R r1 r2 => h.fin R (q2 R r1 r2).1 (q2 R r1 r2).2⟩
  · obtain ⟨q1, q2⟩ := m7 L hL sL
    have hL' := permIn_mono _ _ (mid + 1) b a b (by omega) (Nat.le_refl _) hb4 hL
    have h5 := h4.to hL'
    exact ⟨h.ha, m1, by have := h.hb; omega, h5.hs, h5.perm, h5.nd, q1, fun R r1 r2 => h.fin R (q2 R r1 r2).1 (q2 R r1 r2).2⟩
theorem PdI.part2 {fa fb a b p : Nat} {d0 d : Array Nat} (hS : SWO lt) (h : PdI lt fa fb d0 a b d) (h1 : a ≤ p) (h2 : p < b) : ∃ mid d4, (partition lt d a b p).1 = mid ∧ (partition lt d a b p).2.2 = d4 ∧
    a ≤ mid ∧ mid < b ∧ b ≤ d4.size ∧ d4.toList.Nodup ∧ Below lt a mid d4 ∧ Below lt (mid + 1) b d4 ∧
    (∀ L, PermIn a mid d4 L → SortedIn lt a mid L → PdI lt fa fb d0 (mid + 1) b L) ∧ (∀ L, PermIn (mid + 1) b d4 L → SortedIn lt (mid + 1) b L → PdI lt fa fb d0 a mid L) := by
  obtain ⟨mid, hm⟩ : ∃ mid, (partition lt d a b p).1 = mid := ⟨_, rfl⟩
  obtain ⟨d4, hd⟩ : ∃ d4, (partition lt d a b p).2.2 = d4 := ⟨_, rfl⟩
  exact ⟨mid, d4, hm, hd, h.part (ap := (partition lt d a b p).2.1) hS h1 h2 (by rw [← hm, ← hd])⟩
end
theorem insF_perm (l : List Ct) (i : Nat) : ∀ r : List Nat, (insF l i r).Perm (i :: r)
  | [] => List.Perm.refl _
  | a :: r => by
    unfold insF
    split
    · exact ((insF_perm l i r).cons a).trans (List.Perm.swap i a r)
    · exact List.Perm.refl _
theorem insF_sorted (l : List Ct) (i : Nat) : ∀ r : List Nat, r.Pairwise (fun x y => ltB l y x = false) → (insF l i r).Pairwise (fun x y => ltB l y x = false)
  | [], _ => List.pairwise_singleton _ _
  | a :: r, h => by
    have h' := List.pairwise_cons.1 h
    unfold insF
    split
    · rename_i hc
      refine List.pairwise_cons.2 ⟨fun b hb => ?_, insF_sorted l i r h'.2⟩
      rcases List.mem_cons.1 ((insF_perm l i r).mem_iff.1 hb) with e | hb
      · rw [e]
        exact (ltB_swo l).asymm (show ltB l a i = true from decide_eq_true hc)
      · exact h'.1 b hb
    · rename_i hc
      have ha : ltB l a i = false := decide_eq_false hc
      refine List.pairwise_cons.2 ⟨fun b hb => ?_, h⟩
      rcases List.mem_cons.1 hb with e | hb
      · rw [e]
        exact ha
      · exact (ltB_swo l).ntrans _ a _ (h'.1 b hb) ha
theorem foldr_ins (l : List Ct) : ∀ (r acc : List Nat), acc.Pairwise (fun x y => ltB l y x = false) → (r.foldl (fun o i => insF l i o) acc).Perm (r ++ acc) ∧ (r.foldl (fun o i => insF l i o) acc).Pairwise (fun x y => ltB l y x = false)
  | [], acc, h => ⟨List.Perm.refl _, h⟩
  | i :: r, acc, h => by
    obtain ⟨h1, h2⟩ := foldr_ins l r (insF l i acc) (insF_sorted l i acc h)
    exact ⟨h1.trans (((insF_perm l i acc).append_left r).trans List.perm_middle), h2⟩
theorem ordF_perm (l : List Ct) : (ordF l).Perm (List.range l.length) := by
  have := (foldr_ins l (List.range l.length) [] List.Pairwise.nil).1
  rwa [List.append_nil] at this
theorem ordF_sorted (l : List Ct) : (ordF l).Pairwise (fun x y => ltB l y x = false) := (foldr_ins l (List.range l.length) [] List.Pairwise.nil).2
theorem sortedIn_list {lt : Nat → Nat → Bool} {r : List Nat} (h : r.Pairwise (fun x y => lt y x = false)) : SortedIn lt 0 r.length r.toArray := fun i j _ hij hj => by
  rw [getElem!_pos r.toArray i (by simp; omega), getElem!_pos r.toArray j (by simp; omega)]
  exact List.pairwise_iff_getElem.1 h i j (by omega) hj hij
theorem ord_unique {l : List Ct} {m : Nat} {d' : Array Nat} (hm : m = l.length) (hP : PermIn 0 m (List.range m).toArray d') (hS : SortedIn (ltB l) 0 m d') : d'.toList = ordF l := by
  subst hm
  have e : (List.range l.length).toArray.size = l.length := by simp
  have hl : (ordF l).length = l.length := by rw [(ordF_perm l).length_eq]; simp
  have h1 := sorted_unique_holds (ltB_swo l) (ltB_total l) (List.range l.length).toArray d' (by rw [e]; exact hP) (by rw [e]; exact hS)
  have h2 := sorted_unique_holds (ltB_swo l) (ltB_total l) (List.range l.length).toArray (ordF l).toArray (by
    rw [e]
    refine ⟨by simp [hl], fun i hi => ?_, ?_⟩
    · have hi : l.length ≤ i := by omega
      rw [getElem!_neg (ordF l).toArray i (by simp; omega), getElem!_neg (List.range l.length).toArray i (by simp; omega)]
    · rw [Array.toList_extract, Array.toList_extract]
      simp only [List.extract_eq_take_drop, List.drop_zero, Nat.sub_zero]
      rw [List.take_of_length_le (by simp [hl]), List.take_of_length_le (by simp)]
      exact ordF_perm l) (by rw [e, ← hl]; exact sortedIn_list (ordF_sorted l))
  rw [h1, ← h2]
end Go.Proofs.Ytamjhpdgclbfgaa
