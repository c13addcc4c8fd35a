/- Chapter 27: the pipes to which different things have been done, as the program gathers them (plain). -/
import Derived.Test.YtjbpdimepckmfaaXDifP
import Derived.Test.YtjbpdimepckmfaaXRdi
import Derived.Test.YtjbpdimepckmfaaXLibSortM
namespace Go.Proofs.Ytjbpdimepckmfaa
open Go.RowKit Go.Kq Go.Sort

def difO (o1 o2 : Option Pv) : Bool := (o1.isSome != o2.isSome) || !eqV (o1.getD default) (o2.getD default)
theorem difO_iff {o1 o2 : Option Pv} : difO o1 o2 = true ↔ o1 ≠ o2 := by
  unfold difO
  cases o1 with
  | none =>
    cases o2 with
    | none =>
      have : eqV (default : Pv) default = true := (eqV_iff _ _).2 rfl
      simp [this]
    | some v => simp
  | some u =>
    cases o2 with
    | none => simp
    | some v =>
      simp only [Option.isSome_some, bne_self_eq_false, Bool.false_or, Option.getD_some, Bool.not_eq_true', ne_eq, Option.some.injEq]
      rw [← eqV_iff, Bool.not_eq_true]
def dlA (wa wb : List Wk) (S : List Pp) : List Pp := S.reverse.filter fun p => difO (stOf wa p) (stOf wb p)
def dlB (wa : List Wk) (S : List Pp) : List Pp := S.reverse.filter fun p => (stOf wa p).isNone
theorem dlA_cons (wa wb : List Wk) (p : Pp) (S : List Pp) : dlA wa wb (p :: S) = dlA wa wb S ++ if difO (stOf wa p) (stOf wb p) then [p] else [] := by
  unfold dlA
  rw [List.reverse_cons, List.filter_append]
  by_cases h : difO (stOf wa p) (stOf wb p) <;> simp [h]
theorem dlB_cons (wa : List Wk) (p : Pp) (S : List Pp) : dlB wa (p :: S) = dlB wa S ++ if (stOf wa p).isNone then [p] else [] := by
  unfold dlB
  rw [List.reverse_cons, List.filter_append]
  by_cases h : (stOf wa p).isNone <;> simp [h]
theorem dlA_len (wa wb : List Wk) (S : List Pp) : (dlA wa wb S).length ≤ S.length := by
  unfold dlA
  have := List.length_filter_le (fun p => difO (stOf wa p) (stOf wb p)) S.reverse
  rwa [List.length_reverse] at this
theorem dlB_len (wa : List Wk) (S : List Pp) : (dlB wa S).length ≤ S.length := by
  unfold dlB
  have := List.length_filter_le (fun p => (stOf wa p).isNone) S.reverse
  rwa [List.length_reverse] at this
/-- All pipes gathered and sorted. -/
theorem dif_sorted {wa wb : List Wk} {S T out : List Pp} (hS : S.Nodup) (hT : T.Nodup) (mS : ∀ p, p ∈ S ↔ (stOf wa p).isSome = true) (mT : ∀ p, p ∈ T ↔ (stOf wb p).isSome = true)
    (hp : out.Perm (dlA wa wb S ++ dlB wa T)) (hs : out.Pairwise fun x y => ltP y x = false) : DifR wa wb out := by
  have hmem : ∀ p, p ∈ dlA wa wb S ++ dlB wa T ↔ stOf wa p ≠ stOf wb p := fun p => by
    unfold dlA dlB
    rw [List.mem_append, List.mem_filter, List.mem_filter, List.mem_reverse, List.mem_reverse, mS, mT, difO_iff]
    cases h1 : stOf wa p <;> cases h2 : stOf wb p <;> simp
  have hnd : (dlA wa wb S ++ dlB wa T).Nodup := by
    rw [List.nodup_append]
    refine ⟨?_, ?_, fun u hu v hv e => ?_⟩
    · unfold dlA
      exact List.Nodup.sublist List.filter_sublist ((List.reverse_perm S).nodup_iff.2 hS)
    · unfold dlB
      exact List.Nodup.sublist List.filter_sublist ((List.reverse_perm T).nodup_iff.2 hT)
    · subst e
      unfold dlA at hu
      unfold dlB at hv
      have h1 := (mS u).1 (by simpa using (List.mem_filter.1 hu).1)
      have h2 := (List.mem_filter.1 hv).2
      rw [Option.isNone_iff_eq_none] at h2
      rw [h2] at h1
      cases h1
  refine ⟨?_, fun p => hp.mem_iff.trans (hmem p)⟩
  have h1 : out.Pairwise fun x y => ltP y x = false ∧ x ≠ y := hs.and (hp.nodup_iff.2 hnd)
  exact h1.imp fun {x y} h => by
    cases h5 : ltP x y with
    | true => rfl
    | false => exact absurd (ltP_total h5 h.1) h.2
theorem ltPP (x y : Pp) : ltOf cmpP x y = ltP x y := cmpP_lt x y
theorem swoP : SWO (ltOf cmpP) where
  irrefl x := by rw [ltPP]; exact ltP_irr x
  trans x y z h1 h2 := by
    rw [ltPP] at *
    exact ltP_trans h1 h2
  ntrans x y z h1 h2 := by
    rw [ltPP, ltP_no] at *
    omega
theorem cmpLaysP (blk off size : Nat) (w : World) : CmpLays Try.prog 54 #[] ppC 2 cmpP blk off size w := fun _ _ _ _ x y => order_any x y _
theorem RangeAt.kpS {κ ν : Type} [DecidableEq κ] {ek : κ → Value} {ev : ν → Value} {E : List (κ × ν)} {S : List κ} {w w' : World} {b r : Nat} {T : Nat → Prop} (h : RangeAt w b r ek ev E S) (k : Kp T w w') (hb : ¬ T b) (hr : ¬ T r) : RangeAt w' b r ek ev E S :=
  h.of_block (k.block b h.map.lt hb) (k.block r h.lt hr)
end Go.Proofs.Ytjbpdimepckmfaa
