/- Chapter 09: what lies by shelves gives a candidate of the search with no more plates, and its area is at most that of its plates. Plain. -/
import Derived.Test.YtamjhpdgclbfgaaXAcCM
import Derived.Test.YtamjhpdgclbfgaaXCspM
namespace Go.Proofs.Ytamjhpdgclbfgaa

theorem plF_fold : ∀ (l : List Spo) (n : Int), n ≤ l.foldl (fun n s => max n (s.p + 1)) n ∧ ∀ s ∈ l, s.p + 1 ≤ l.foldl (fun n s => max n (s.p + 1)) n
  | [], n => ⟨Int.le_refl _, fun s h => by cases h⟩
  | a :: l, n => by
    obtain ⟨h1, h2⟩ := plF_fold l (max n (a.p + 1))
    refine ⟨by simp only [List.foldl_cons]; omega, fun s hs => ?_⟩
    simp only [List.foldl_cons]
    rcases List.mem_cons.1 hs with rfl | hs
    · omega
    · exact h2 s hs
theorem plF_le {M : Int} : ∀ (l : List Spo) (n : Int), n ≤ M → (∀ s ∈ l, s.p + 1 ≤ M) → l.foldl (fun n s => max n (s.p + 1)) n ≤ M
  | [], _, h, _ => h
  | a :: l, n, h, hs => by
    simp only [List.foldl_cons]
    have := hs a (by simp)
    exact plF_le l _ (by omega) fun s h => hs s (by simp [h])
section
variable {P : Pt} {l : List Ct} {at_ : List Spo} {m : Nat} {PP : Nat → Nat} {YY HH : Nat → Int}
theorem getD_mem {α : Type} [Inhabited α] {at_ : List α} {i : Nat} (h : i < at_.length) : at_.getD i default ∈ at_ := by
  rw [List.getD_eq_getElem?_getD, List.getElem?_eq_getElem h]
  exact List.getElem_mem h
theorem Shv.pl (h : Shv P l at_ m PP YY HH) {k : Nat} (hk : k < m) : (PP k : Int) + 1 ≤ plF at_ := by
  obtain ⟨i, hi, e⟩ := h.ne k hk
  obtain ⟨k', hk', e1, e2, _⟩ := h.sp i hi
  have hkk : k = k' := by omega
  subst hkk
  have := (plF_fold at_ 0).2 _ (getD_mem (by rw [h.len]; exact hi))
  rw [e1] at this
  exact this
theorem wid_getD {xs : List Ct} {i : Nat} (hi : i < xs.length) : (xs.map Ct.w).getD i 0 = (xs.getD i default).w := by
  rw [List.getD_eq_getElem?_getD, List.getD_eq_getElem?_getD, List.getElem?_map, List.getElem?_eq_getElem hi]
  rfl
theorem hei_getD {xs : List Ct} {i : Nat} (hi : i < xs.length) : (xs.map Ct.h).getD i 0 = (xs.getD i default).h := by
  rw [List.getD_eq_getElem?_getD, List.getD_eq_getElem?_getD, List.getElem?_map, List.getElem?_eq_getElem hi]
  rfl
theorem map_range_getD (f : Nat → Nat) {n i : Nat} (hi : i < n) : ((List.range n).map f).getD i 0 = f i := by
  rw [List.getD_eq_getElem?_getD, List.getElem?_map, List.getElem?_range hi]
  rfl
theorem map_eq_getD {S T : List Nat} {g : Nat → Nat} (h : S = T.map g) {i : Nat} (hi : i < S.length) : S.getD i 0 = g (T.getD i 0) := by
  subst h
  have hi' : i < T.length := by simpa using hi
  rw [List.getD_eq_getElem?_getD, List.getD_eq_getElem?_getD, List.getElem?_map, List.getElem?_eq_getElem hi']
  rfl
theorem Shv.cand (h : Shv P l at_ m PP YY HH) (hj : JobP P l) : ∃ S ON d, S ∈ grpR l.length ∧ ON ∈ grpR (cntF S) ∧ rankV P l S ON = some (((cntF ON : Nat) : Int), d) ∧ (cntF ON : Int) ≤ plF at_ := by
  obtain ⟨S, g, hS1, hS2, hS3⟩ := canon ((List.range l.length).map fun i => (at_.getD i default).s.toNat)
  have hSl : S.length = l.length := by
    have := congrArg List.length hS2
    simpa using this.symm
  have hSm : ∀ o, o < cntF S → g o < m := fun o ho => by
    have h1 := rg_mem S 0 o hS1 (by omega) (by omega)
    have h2 : g o ∈ S.map g := List.mem_map.2 ⟨o, h1, rfl⟩
    rw [← hS2] at h2
    obtain ⟨i, hi, e⟩ := List.mem_map.1 h2
    have hi := List.mem_range.1 hi
    obtain ⟨k, hk, _, e2, _⟩ := h.sp i hi
    rw [e2] at e
    simp at e
    omega
  have hS0 : ∀ i, i < l.length → ∃ k, k < m ∧ g (S.getD i 0) = k ∧ (at_.getD i default).s = (k : Nat) ∧ (l.getD i default).h ≤ HH k := fun i hi => by
    obtain ⟨k, hk, _, e2, _, _, _, e3⟩ := h.sp i hi
    have e := map_eq_getD hS2 (i := i) (by simpa using hi)
    rw [map_range_getD _ hi, e2] at e
    simp at e
    exact ⟨k, hk, by rw [List.getD_eq_getElem?_getD]; exact e.symm, e2, e3⟩
  have hfw : fitsM P.w (run P.k [] S (l.map Ct.w)) = true := by
    refine fits_of fun o ho => ?_
    have hl : S.length = (l.map Ct.w).length := by simpa using hSl
    rw [run_len P.k S _ [] 0 rfl hS1 hl] at ho
    rw [run_tot S _ [] 0 o rfl hS1 hl ho, if_neg (by omega), ← tot_map (g := g) hS3 (by omega) S _ (fun k hk => cntF_lt k hk), ← hS2, tot_range _ _ _ _ (by simp)]
    have hw := h.wid (g o) (hSm o (by omega))
    have e : ((List.range l.length).map fun i => if (at_.getD i default).s.toNat = g o then (l.map Ct.w).getD i 0 + P.k else 0) = (List.range l.length).map fun i => if (at_.getD i default).s = (g o : Nat) then (l.getD i default).w + P.k else 0 := by
      refine List.map_congr_left fun i hi => ?_
      have hi := List.mem_range.1 hi
      obtain ⟨k, hk, _, e2, _⟩ := h.sp i hi
      rw [wid_getD hi, e2]
      by_cases hc : k = g o
      · rw [if_pos (by simp [hc]), if_pos (by simp [hc])]
      · rw [if_neg (by simp; exact hc), if_neg (by omega)]
    rw [e]
    omega
  have hgt := hgt_eq hj hS1 hSl
  rw [if_pos hfw] at hgt
  obtain ⟨hHl, hHp⟩ := hrun_facts (M := P.h) S (l.map Ct.h) [] 0 rfl hS1 (by simpa using hSl) (fun h hh => by cases hh) (fun x hx => by
    obtain ⟨c, hc, rfl⟩ := List.mem_map.1 hx
    exact (hj.c c hc).2.2)
  have hHl' : (hrun [] S (l.map Ct.h)).length = cntF S := by rw [hHl]; omega
  have hHB : ∀ o, o < cntF S → (hrun [] S (l.map Ct.h)).getD o 0 ≤ HH (g o) := fun o ho => by
    refine hrun_le (B := fun o => HH (g o)) S _ [] 0 rfl hS1 (by simpa using hSl) (fun p hp => by omega) (fun i hi => ?_) o (by omega)
    obtain ⟨k, _, e1, _, e3⟩ := hS0 i (by omega)
    rw [hei_getD (by omega), e1]
    exact e3
  obtain ⟨ON, g2, hO1, hO2, hO3⟩ := canon ((List.range (cntF S)).map fun o => PP (g o))
  have hOl : ON.length = cntF S := by
    have := congrArg List.length hO2
    simpa using this.symm
  have hOl' : ON.length = (hrun [] S (l.map Ct.h)).length := by rw [hOl, hHl']
  have hfh : fitsM P.h (run P.k [] ON (hrun [] S (l.map Ct.h))) = true := by
    refine fits_of fun p hp => ?_
    rw [run_len P.k ON _ [] 0 rfl hO1 hOl'] at hp
    rw [run_tot ON _ [] 0 p rfl hO1 hOl' hp, if_neg (by omega), ← tot_map (g := g2) hO3 (by omega) ON _ (fun k hk => cntF_lt k hk), ← hO2, tot_range _ _ _ _ (by rw [hHl']; exact Nat.le_refl _)]
    have h1 : ((List.range (cntF S)).map fun o => if PP (g o) = g2 p then (hrun [] S (l.map Ct.h)).getD o 0 + P.k else 0).sum ≤ ((List.range (cntF S)).map fun o => if g o < m ∧ PP (g o) = g2 p then HH (g o) + P.k else 0).sum := by
      refine sum_le fun o ho => ?_
      have ho := List.mem_range.1 ho
      have := hHB o ho
      have := hSm o ho
      split
      · rw [if_pos ⟨by omega, by assumption⟩]
        omega
      · rw [if_neg (fun hh => by have := hh.2; contradiction)]
        exact Int.le_refl _
    have h2 := sum_nodup (W := fun k => if k < m ∧ PP k = g2 p then HH k + P.k else 0) (fun k => by
      split
      · rename_i hh
        have := h.yy k hh.1
        have := hj.k
        omega
      · exact Int.le_refl _) ((List.range (cntF S)).map g) (List.range m) (nodup_map_inj List.nodup_range fun a ha b hb e => hS3 a b (List.mem_range.1 ha) (List.mem_range.1 hb) e) (fun a ha => by
        obtain ⟨o, ho, rfl⟩ := List.mem_map.1 ha
        exact List.mem_range.2 (hSm o (List.mem_range.1 ho)))
    rw [List.map_map] at h2
    have e : ((List.range m).map fun k => if k < m ∧ PP k = g2 p then HH k + P.k else 0) = (List.range m).map fun k => if PP k = g2 p then HH k + P.k else 0 := by
      refine List.map_congr_left fun k hk => ?_
      have hk := List.mem_range.1 hk
      by_cases hc : PP k = g2 p
      · rw [if_pos ⟨hk, hc⟩, if_pos hc]
      · rw [if_neg (fun hh => hc hh.2), if_neg hc]
    rw [e] at h2
    have h3 := h.hei (g2 p)
    have h4 : ((List.range (cntF S)).map fun o => if g o < m ∧ PP (g o) = g2 p then HH (g o) + P.k else 0).sum = (List.map ((fun k => if k < m ∧ PP k = g2 p then HH k + P.k else 0) ∘ g) (List.range (cntF S))).sum := rfl
    omega
  have huse := use_eq (H := hrun [] S (l.map Ct.h)) hj.k (fun h hh => (hHp h hh).1) hO1 hOl'
  rw [if_pos hfh] at huse
  have hUl : (run P.k [] ON (hrun [] S (l.map Ct.h))).length = cntF ON := by
    rw [run_len P.k ON _ [] 0 rfl hO1 hOl']
    omega
  refine ⟨S, ON, _, by rw [grp_eq, ← hSl]; exact rg_grp S 0 hS1, by rw [grp_eq, ← hOl]; exact rg_grp ON 0 hO1, by unfold rankV; rw [hgt]; simp only []; rw [huse]; simp only []; rw [hUl], ?_⟩
  have hc := card_nodup ((List.range (cntF ON)).map g2) (List.range (plF at_).toNat) (nodup_map_inj List.nodup_range fun a ha b hb e => hO3 a b (List.mem_range.1 ha) (List.mem_range.1 hb) e) (fun a ha => by
    obtain ⟨p, hp, rfl⟩ := List.mem_map.1 ha
    have hp := List.mem_range.1 hp
    have h1 := rg_mem ON 0 p hO1 (by omega) (by omega)
    have h2 : g2 p ∈ ON.map g2 := List.mem_map.2 ⟨p, h1, rfl⟩
    rw [← hO2] at h2
    obtain ⟨o, ho, e⟩ := List.mem_map.1 h2
    have := h.pl (hSm o (List.mem_range.1 ho))
    rw [List.mem_range, ← e]
    omega)
  have hp0 : 0 ≤ plF at_ := (plF_fold at_ 0).1
  simp at hc
  omega
/-! ### the area -/
theorem sum_zero {α : Type} : ∀ L : List α, (L.map fun _ => (0 : Int)).sum = 0
  | [] => rfl
  | _ :: L => by simp only [List.map_cons, List.sum_cons, sum_zero L]; rfl
theorem sum_one (k : Nat) (v : Nat → Int) : ∀ c : Nat, k < c → ((List.range c).map fun o => if k = o then v o else 0).sum = v k
  | 0, h => by omega
  | c + 1, h => by
    rw [List.range_succ, List.map_append, List.sum_append]
    simp only [List.map_cons, List.map_nil, List.sum_cons, List.sum_nil]
    by_cases e : k = c
    · subst e
      have e0 : ((List.range k).map fun o => if k = o then v o else 0) = (List.range k).map fun _ => (0 : Int) := List.map_congr_left fun o ho => by
        have := List.mem_range.1 ho
        rw [if_neg (by omega)]
      rw [e0, sum_zero, if_pos rfl]
      omega
    · rw [sum_one k v c (by omega), if_neg e]
      omega
theorem sum_add {α : Type} (f g : α → Int) : ∀ L : List α, (L.map fun a => f a + g a).sum = (L.map f).sum + (L.map g).sum
  | [] => rfl
  | a :: L => by
    have := sum_add f g L
    simp only [List.map_cons, List.sum_cons]
    omega
theorem sum_mul {α : Type} (M : Int) (f : α → Int) : ∀ L : List α, (L.map fun a => M * f a).sum = M * (L.map f).sum
  | [] => by simp
  | a :: L => by
    have := sum_mul M f L
    simp only [List.map_cons, List.sum_cons, this, Int.mul_add]
/-- Counting twice. -/
theorem sum_swap {α : Type} (c : Nat) (k : α → Nat) (v A : α → Int) (B : Nat → Int) : ∀ (L : List α), (∀ a ∈ L, k a < c) → (∀ a ∈ L, A a = B (k a)) → ((List.range c).map fun o => (L.map fun a => if k a = o then v a else 0).sum * B o).sum = (L.map fun a => v a * A a).sum
  | [], _, _ => by
    simp only [List.map_nil, List.sum_nil, Int.zero_mul]
    exact sum_zero _
  | a :: L, h, hA => by
    have ih := sum_swap c k v A B L (fun b hb => h b (by simp [hb])) fun b hb => hA b (by simp [hb])
    simp only [List.map_cons, List.sum_cons]
    rw [← ih]
    have e : ((List.range c).map fun o => ((if k a = o then v a else 0) + (L.map fun a => if k a = o then v a else 0).sum) * B o) = (List.range c).map fun o => (if k a = o then v a * B o else 0) + (L.map fun a => if k a = o then v a else 0).sum * B o := List.map_congr_left fun o _ => by
      rw [Int.add_mul]
      congr 1
      split <;> simp
    rw [e, sum_add, sum_one (k a) (fun o => v a * B o) c (h a (by simp)), hA a (by simp)]
theorem Shv.area (h : Shv P l at_ m PP YY HH) (hj : JobP P l) (hw0 : 0 ≤ P.w) : sumA P.k l ≤ plF at_ * ((P.w + P.k) * (P.h + P.k)) := by
  have hK := hj.k
  have hp0 : 0 ≤ plF at_ := (plF_fold at_ 0).1
  have hcw : ∀ i, i < l.length → 0 < (l.getD i default).w ∧ (l.getD i default).w ≤ P.w ∧ 0 < (l.getD i default).h ∧ (l.getD i default).h ≤ P.h := fun i hi => hj.c _ (getD_mem hi)
  have e0 : sumA P.k l = ((List.range l.length).map fun i => ((l.getD i default).w + P.k) * ((l.getD i default).h + P.k)).sum := by
    unfold sumA
    congr 1
    refine List.ext_getElem? fun i => ?_
    rw [List.getElem?_map, List.getElem?_map]
    by_cases hi : i < l.length
    · rw [List.getElem?_range hi, List.getElem?_eq_getElem hi]
      simp only [Option.map_some]
      rw [List.getD_eq_getElem?_getD, List.getElem?_eq_getElem hi]
      rfl
    · rw [List.getElem?_eq_none (by omega), List.getElem?_eq_none (by simp; omega)]
      rfl
  have h1 : sumA P.k l ≤ ((List.range l.length).map fun i => ((l.getD i default).w + P.k) * (HH (at_.getD i default).s.toNat + P.k)).sum := by
    rw [e0]
    refine sum_le fun i hi => ?_
    have hi := List.mem_range.1 hi
    obtain ⟨k, _, _, e2, _, _, _, e3⟩ := h.sp i hi
    have := hcw i hi
    rw [e2]
    exact Int.mul_le_mul_of_nonneg_left (by rw [Int.toNat_natCast]; omega) (by omega)
  have h2 := sum_swap m (fun i => (at_.getD i default).s.toNat) (fun i => (l.getD i default).w + P.k) (fun i => HH (at_.getD i default).s.toNat + P.k) (fun k => HH k + P.k) (List.range l.length) (fun i hi => by
    obtain ⟨k, hk, _, e2, _⟩ := h.sp i (List.mem_range.1 hi)
    rw [e2]
    simpa using hk) (fun _ _ => rfl)
  have h3 : ((List.range m).map fun o => ((List.range l.length).map fun i => if (at_.getD i default).s.toNat = o then (l.getD i default).w + P.k else 0).sum * (HH o + P.k)).sum ≤ ((List.range m).map fun o => (P.w + P.k) * (HH o + P.k)).sum := by
    refine sum_le fun o ho => ?_
    have ho := List.mem_range.1 ho
    have hy := h.yy o ho
    refine Int.mul_le_mul_of_nonneg_right ?_ (by omega)
    have hw := h.wid o ho
    have e : ((List.range l.length).map fun i => if (at_.getD i default).s.toNat = o then (l.getD i default).w + P.k else 0) = (List.range l.length).map fun i => if (at_.getD i default).s = (o : Nat) then (l.getD i default).w + P.k else 0 := List.map_congr_left fun i hi => by
      obtain ⟨k, hk, _, e2, _⟩ := h.sp i (List.mem_range.1 hi)
      rw [e2]
      by_cases hc : k = o
      · rw [if_pos (by simp [hc]), if_pos (by simp [hc])]
      · rw [if_neg (by simp; exact hc), if_neg (by omega)]
    rw [e]
    exact hw
  rw [sum_mul] at h3
  have h4 := sum_swap (plF at_).toNat PP (fun k => HH k + P.k) (fun _ => 1) (fun _ => 1) (List.range m) (fun k hk => by
    have := h.pl (List.mem_range.1 hk)
    omega) (fun _ _ => rfl)
  simp only [Int.mul_one] at h4
  have h5 : ((List.range (plF at_).toNat).map fun p => ((List.range m).map fun k => if PP k = p then HH k + P.k else 0).sum).sum ≤ ((List.range (plF at_).toNat).map fun _ => (P.h + P.k)).sum := sum_le fun p _ => h.hei p
  have h6 : ((List.range (plF at_).toNat).map fun _ => (P.h + P.k)).sum = plF at_ * (P.h + P.k) := by
    have e : ∀ (n : Nat) (v : Int), ((List.range n).map fun _ => v).sum = n * v := fun n v => by
      induction n with
      | zero => simp
      | succ n ih =>
        rw [List.range_succ, List.map_append, List.sum_append, ih]
        simp only [List.map_cons, List.map_nil, List.sum_cons, List.sum_nil]
        have : ((n + 1 : Nat) : Int) * v = n * v + v := by rw [Int.natCast_add, Int.add_mul]; simp
        omega
    rw [e]
    congr 1
    omega
  have hPw : 0 ≤ P.w + P.k := by omega
  have h7 : (P.w + P.k) * ((List.range m).map fun k => HH k + P.k).sum ≤ (P.w + P.k) * (plF at_ * (P.h + P.k)) := Int.mul_le_mul_of_nonneg_left (by omega) hPw
  have e8 : (P.w + P.k) * (plF at_ * (P.h + P.k)) = plF at_ * ((P.w + P.k) * (P.h + P.k)) := by
    rw [← Int.mul_assoc, Int.mul_comm (P.w + P.k) (plF at_), Int.mul_assoc]
  omega
end
end Go.Proofs.Ytamjhpdgclbfgaa
