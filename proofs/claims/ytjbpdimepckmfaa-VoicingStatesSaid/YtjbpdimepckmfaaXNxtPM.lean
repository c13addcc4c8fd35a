/- Chapter 27: a pipe's place in a list of what has been done (plain). · Chapter 27: a work put into its place (plain). · Chapter 27: what Next gives (plain). -/
import Derived.Test.YtjbpdimepckmfaaXStP
import Derived.Test.YtjbpdimepckmfaaXMrgP
import Derived.Test.YtjbpdimepckmfaaXRchAM
namespace Go.Proofs.Ytjbpdimepckmfaa
open Go.RowKit Go.Kq

def SrtP (s : List Pv) : Prop := s.Pairwise fun a b => ltP a.p b.p = true
/-- The list with the pipe in it: L ahead of it, R behind it. -/
structure PlcR (s : List Pv) (p : Pp) (L : List Pv) (e0 : Pv) (R : List Pv) : Prop where
  is : s = L ++ e0 :: R ∨ (s = L ++ R ∧ e0 = pv0 p)
  pp : e0.p = p
  lo : ∀ u ∈ L, ltP u.p p = true
  hi : SrtP s → ∀ u ∈ R, ltP p u.p = true
theorem plc_found {s : List Pv} {p : Pp} {i : Nat} {u : Pv} (hu : s[i]? = some u) (hp : u.p = p) (hlo : ∀ v ∈ s.take i, ltP v.p p = true) : PlcR s p (s.take i) u (s.drop (i + 1)) ∧ s.take i ++ u :: s.drop (i + 1) = s := by
  obtain ⟨hi, he⟩ := List.getElem?_eq_some_iff.1 hu
  have h1 : s.take i ++ u :: s.drop (i + 1) = s := by rw [← he, List.getElem_cons_drop, List.take_append_drop]
  refine ⟨⟨.inl h1.symm, hp, hlo, fun hs v hv => ?_⟩, h1⟩
  rw [← h1] at hs
  unfold SrtP at hs
  rw [List.pairwise_append, List.pairwise_cons] at hs
  rw [← hp]
  exact hs.2.1.1 v hv
theorem plc_new {s : List Pv} {p : Pp} {i : Nat} (hlo : ∀ v ∈ s.take i, ltP v.p p = true) (hge : ∀ u, s[i]? = some u → ltP u.p p = false ∧ u.p ≠ p) : PlcR s p (s.take i) (pv0 p) (s.drop i) := by
  refine ⟨.inr ⟨(List.take_append_drop i s).symm, rfl⟩, rfl, hlo, fun hs v hv => ?_⟩
  obtain ⟨j, hj⟩ := List.getElem?_of_mem hv
  rw [List.getElem?_drop] at hj
  have hjl := (List.getElem?_eq_some_iff.1 hj).1
  obtain ⟨u, hu⟩ : ∃ u, s[i]? = some u := ⟨_, List.getElem?_eq_getElem (by omega)⟩
  obtain ⟨h1, h2⟩ := hge u hu
  have h3 : ltP p u.p = true := by
    cases h : ltP p u.p with
    | true => rfl
    | false => exact absurd (ltP_total h1 h) h2
  rcases Nat.eq_zero_or_pos j with rfl | hj0
  · rw [Nat.add_zero, hu] at hj
    cases hj
    exact h3
  · have h4 : ltP u.p v.p = true := by
      unfold SrtP at hs
      rw [List.pairwise_iff_getElem] at hs
      obtain ⟨hi2, e1⟩ := List.getElem?_eq_some_iff.1 hu
      obtain ⟨hj2, e2⟩ := List.getElem?_eq_some_iff.1 hj
      have := hs i (i + j) hi2 hj2 (by omega)
      rwa [e1, e2] at this
    exact ltP_trans h3 h4
/-- A work is done to its pipe, in its place. -/
theorem plc_step {ws : List Wk} {s : List Pv} {x : Wk} {p : Pp} {L R : List Pv} {e0 : Pv} (hs : IsSt ws s) (h : PlcR s p L e0 R) (hx : x.pp = p) : IsSt (ws ++ [x]) (L ++ stepP e0 x :: R) := by
  have hS : SrtP s := hs.1
  have hhi := h.hi hS
  have hp : (stepP e0 x).p = p := by rw [stepP_p, h.pp]
  have hmem : ∀ v, v.p ≠ p → (v ∈ s ↔ v ∈ L ∨ v ∈ R) := fun v hv => by
    rcases h.is with e | ⟨e, _⟩
    · rw [e, List.mem_append, List.mem_cons]
      constructor
      · rintro (h1 | h1 | h1)
        · exact .inl h1
        · exact absurd (by rw [h1, h.pp]) hv
        · exact .inr h1
      · rintro (h1 | h1)
        · exact .inl h1
        · exact .inr (.inr h1)
    · rw [e, List.mem_append]
  have he0 : (stOf ws p).getD (pv0 p) = e0 := by
    rcases h.is with e | ⟨e, e1⟩
    · have : e0 ∈ s := by rw [e]; simp
      have := (hs.2 e0).1 this
      rw [h.pp] at this
      rw [this]
      rfl
    · cases ho : stOf ws p with
      | none => rw [e1]; rfl
      | some u =>
        have hup := stOf_p ho
        have : u ∈ s := (hs.2 u).2 (by rw [hup]; exact ho)
        rw [e] at this
        rcases List.mem_append.1 this with h1 | h1
        · have := h.lo u h1
          rw [hup, ltP_irr] at this
          cases this
        · have := hhi u h1
          rw [hup, ltP_irr] at this
          cases this
  have hLp : ∀ u ∈ L, u.p ≠ p := fun u hu e => by have := h.lo u hu; rw [e, ltP_irr] at this; cases this
  have hRp : ∀ u ∈ R, u.p ≠ p := fun u hu e => by have := hhi u hu; rw [e, ltP_irr] at this; cases this
  refine ⟨?_, fun v => ?_⟩
  · have hLR : (L ++ R).Pairwise fun a b => ltP a.p b.p = true := by
      rcases h.is with e | ⟨e, _⟩
      · rw [e] at hS
        exact List.Pairwise.sublist (List.Sublist.append_left (List.sublist_cons_self _ _) _) hS
      · rw [← e]
        exact hS
    rw [List.pairwise_append] at hLR ⊢
    refine ⟨hLR.1, List.pairwise_cons.2 ⟨fun b hb => by rw [hp]; exact hhi b hb, hLR.2.1⟩, fun a ha b hb => ?_⟩
    rcases List.mem_cons.1 hb with rfl | hb
    · rw [hp]
      exact h.lo a ha
    · exact hLR.2.2 a ha b hb
  · rw [stOf_snoc, List.mem_append, List.mem_cons]
    by_cases hv : v.p = p
    · rw [hv, if_pos hx, he0]
      constructor
      · rintro (h1 | h1 | h1)
        · exact absurd hv (hLp v h1)
        · rw [h1]
        · exact absurd hv (hRp v h1)
      · intro h1
        injection h1 with h1
        exact .inr (.inl h1.symm)
    · rw [if_neg (by rw [hx]; exact fun e => hv e.symm), ← hs.2 v, hmem v hv]
      constructor
      · rintro (h1 | h1 | h1)
        · exact .inl h1
        · exact absurd (by rw [h1]; exact hp) hv
        · exact .inr h1
      · rintro (h1 | h1)
        · exact .inl h1
        · exact .inr (.inr h1)
end Go.Proofs.Ytjbpdimepckmfaa

namespace Go.Proofs.Ytjbpdimepckmfaa
open Go.RowKit Go.Kq

theorem cells_oneP (x : Wk) : ∀ v ∈ Wk.cells x, v.oneCell' = true := by
  intro v hv
  exact wk_one [x] v (by simpa using hv)
/-- Sorted, not strictly. -/
def SrtN (l : List Wk) : Prop := l.Pairwise fun x y => ltW y x = false
/-- A list with one more work, in its place. -/
def PutR (S : List Wk) (x : Wk) (l : List Wk) : Prop := l.Perm (S ++ [x]) ∧ (SrtN S → SrtN l)
theorem put_R {S A B : List Wk} {x : Wk} (h : S = A ++ B) (hB : ∀ b ∈ B, ltW x b = true) (hA : SrtN S → ∀ a ∈ A, ltW x a = false) : PutR S x (A ++ x :: B) := by
  refine ⟨?_, fun hS => ?_⟩
  · subst h
    exact List.perm_middle.trans (List.perm_append_singleton x (A ++ B)).symm
  · have hA2 := hA hS
    clear hA
    subst h
    unfold SrtN at *
    rw [List.pairwise_append] at hS ⊢
    refine ⟨hS.1, List.pairwise_cons.2 ⟨fun b hb => ?_, hS.2.1⟩, fun a ha b hb => ?_⟩
    · have := hB b hb
      rw [ltW_iff] at this
      rw [ltW_no]
      omega
    · rcases List.mem_cons.1 hb with rfl | hb
      · exact hA2 a ha
      · exact hS.2.2 a ha b hb
theorem put_R2 {S A A' B : List Wk} {x a : Wk} (h : S = A ++ B) (hB : ∀ b ∈ B, ltW x b = true) (hA : A = A' ++ [a]) (hax : ltW x a = false) : PutR S x (A ++ x :: B) :=
  put_R h hB fun hS => by
    subst h hA
    unfold SrtN at hS
    rw [List.pairwise_append, List.pairwise_append] at hS
    intro b hb
    rcases List.mem_append.1 hb with hb | hb
    · have := hS.1.2.2 b hb a (by simp)
      rw [ltW_no] at *
      omega
    · simp at hb
      rw [hb]
      exact hax
theorem put_at0 {A A' B : List Wk} {x a : Wk} {p : Nat} (hA : A = A' ++ [a]) (hp : A'.length = p) : (A ++ x :: B)[p]? = some a := by
  subst hA hp
  simp
theorem put_at1 {A A' B : List Wk} {x a : Wk} {p : Nat} (hA : A = A' ++ [a]) (hp : A'.length = p) : (A ++ x :: B)[p + 1]? = some x := by
  subst hA hp
  rw [List.getElem?_append_right (by simp)]
  simp
theorem put_swap {A A' B : List Wk} {x a : Wk} {p : Nat} (hA : A = A' ++ [a]) (hp : A'.length = p) : ((A ++ x :: B).set (p + 1) a).set p x = A' ++ x :: a :: B := by
  subst hA hp
  simp
theorem PutR.len {S l : List Wk} {x : Wk} (h : PutR S x l) : l.length = S.length + 1 := by rw [h.1.length_eq]; simp
end Go.Proofs.Ytjbpdimepckmfaa

namespace Go.Proofs.Ytjbpdimepckmfaa
open Go.RowKit Go.Kq

/-- The clock behind i works. -/
def ckAt (l : List Wk) : Nat → Int
  | 0 => 1
  | i + 1 => match l[i]? with
    | some u => u.ck + 1
    | none => 1
/-- The work, completed behind i works. -/
def nxtW (l : List Wk) (v : Wk) (i : Nat) : Wk := { v with num := (many (l.take i) v.wk : Int) + 1, ck := ckAt l i }
/-- What Next hands back. -/
def nextV (l : List Wk) (v : Wk) : Wk × Int :=
  if chkL l ≠ 0 then (default, chkL l) else if l.length = 400 then (default, 5) else if 1000000000 < ckAt l l.length then (default, 7) else
    if okW (nxtW l v l.length) then if v.kd = 4 ∧ findN l v.onm = none then (default, 4) else (nxtW l v l.length, 0) else (default, 2)
theorem ck_bd {l : List Wk} (h : ∀ v ∈ l, okW v = true) (i : Nat) : 1 ≤ ckAt l i ∧ ckAt l i ≤ 1000000001 := by
  cases i with
  | zero =>
    have e : ckAt l 0 = 1 := rfl
    omega
  | succ i =>
    have e : ckAt l (i + 1) = match l[i]? with | some u => u.ck + 1 | none => 1 := rfl
    rw [e]
    cases hv : l[i]? with
    | none =>
      simp only
      omega
    | some u =>
      have := h u (List.mem_of_getElem? hv)
      unfold okW at this
      simp only [Bool.and_eq_true, decide_eq_true_eq] at this
      simp only
      omega
/-- A block that holds a work. -/
def BoxW (W : World) (g : Nat) (v : Wk) : Prop := W.heap[g]? = some (.cells v.cells.toArray 41 (0, 0))
theorem BoxW.lt {W : World} {g : Nat} {v : Wk} (h : BoxW W g v) : g < W.heap.size := (Array.getElem?_eq_some_iff.1 h).1
theorem BoxW.at_ {W : World} {g : Nat} {v : Wk} (h : BoxW W g v) : WkAt W g 0 v := .of fun j u hj => by
  unfold BoxW at h
  rw [cell_of_row _ _ _ _ _ _ h, Nat.zero_add]
  simpa using hj
theorem BoxW.free {W : World} {g : Nat} {v : Wk} (h : BoxW W g v) (j : Nat) : W.frozen? ⟨g, j, none⟩ = false := by
  unfold BoxW at h
  simp [World.frozen?, h]
theorem BoxW.kp {S : Nat → Prop} {W W' : World} {g : Nat} {v : Wk} (h : BoxW W g v) (k : Kp S W W') (hS : ¬ S g) : BoxW W' g v := k.heap h hS
theorem BoxW.num {W : World} {g : Nat} {v : Wk} (h : BoxW W g v) (x : Int) : BoxW (W.setCell ⟨g, 1, none⟩ (.int .i64 x)) g { v with num := x } := by
  unfold BoxW at *
  simp [World.setCell, Array.getElem?_modify, h]
  rfl
theorem BoxW.ck {W : World} {g : Nat} {v : Wk} (h : BoxW W g v) (x : Int) : BoxW (W.setCell ⟨g, 2, none⟩ (.int .i64 x)) g { v with ck := x } := by
  unfold BoxW at *
  simp [World.setCell, Array.getElem?_modify, h]
  rfl
/-- A work stored whole. -/
def putW (W : World) (g : Nat) (u : Wk) : World := ((((((((((W.setCell ⟨g, 0, none⟩ (.int .i64 u.wk)).setCell ⟨g, 1, none⟩ (.int .i64 u.num)).setCell ⟨g, 2, none⟩ (.int .i64 u.ck)).setCell ⟨g, 3, none⟩ (.int .i64 u.kd)).setCell ⟨g, 4, none⟩ (.int .i64 u.rk)).setCell ⟨g, 5, none⟩ (.int .i64 u.nt)).setCell ⟨g, 6, none⟩ (.int .i64 u.fd)).setCell ⟨g, 7, none⟩ (.int .i64 u.vl)).setCell ⟨g, 8, none⟩ (.int .i64 u.ow)).setCell ⟨g, 9, none⟩ (.int .i64 u.on)).setCell ⟨g, 10, none⟩ (.string u.tx)
theorem BoxW.put {W : World} {g : Nat} {v : Wk} (h : BoxW W g v) (u : Wk) : BoxW (putW W g u) g u ∧ Kp (Kq.One g) W (putW W g u) := by
  refine ⟨?_, ?_⟩
  · unfold BoxW putW at *
    simp [World.setCell, Array.getElem?_modify, h]
    rfl
  · unfold putW
    exact ((((((((((kp_setOne _ _ _ _).tr (kp_setOne _ _ _ _)).tr (kp_setOne _ _ _ _)).tr (kp_setOne _ _ _ _)).tr (kp_setOne _ _ _ _)).tr (kp_setOne _ _ _ _)).tr (kp_setOne _ _ _ _)).tr (kp_setOne _ _ _ _)).tr (kp_setOne _ _ _ _)).tr (kp_setOne _ _ _ _)).tr (kp_setOne _ _ _ _)
end Go.Proofs.Ytjbpdimepckmfaa
