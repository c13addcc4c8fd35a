/- Chapter 27: which works are undone (plain), no walks. · Chapter 27: the reference's before and many, the statements' before: walks. -/
import Derived.Test.YtjbpdimepckmfaaXClnM
import Derived.Test.YtjbpdimepckmfaaXLibRegInM
import Derived.Test.YtjbpdimepckmfaaXLibApR
import Derived.Test.YtjbpdimepckmfaaXLibStiM
import Derived.Test.YtjbpdimepckmfaaXLibHvM
namespace Go.Proofs.Ytjbpdimepckmfaa
open Go.RowKit Go.Kq

/-- The index of a work by its name; the names of a record are apart. -/
def findN (l : List Wk) (x : Nm) : Option Nat := l.findIdx? fun v => decide (v.nm = x)
def Names (l : List Wk) : Prop := ∀ (i j : Nat) (u v : Wk), l[i]? = some u → l[j]? = some v → u.nm = v.nm → i = j
theorem ixL_get (l : List Wk) (hN : Names l) : ∀ (i : Nat), i ≤ l.length → ∀ x, get1 (ixL l i) x = ((findN (l.take i) x).map fun k : Nat => (k : Int))
  | 0, _, x => rfl
  | i + 1, hi, x => by
    obtain ⟨v, hv⟩ : ∃ v, l[i]? = some v := ⟨_, List.getElem?_eq_getElem (by omega)⟩
    rw [ixL_succ hv, get1_ins, ixL_get l hN i (by omega), List.take_add_one, hv]
    have hlen : (l.take i).length = i := by rw [List.length_take]; omega
    unfold findN
    rw [show (some v).toList = [v] from rfl, List.findIdx?_append, hlen]
    by_cases h : v.nm = x
    · rw [if_pos h]
      have hno : (l.take i).findIdx? (fun v => decide (v.nm = x)) = none := by
        rw [List.findIdx?_eq_none_iff]
        intro u hu
        obtain ⟨j, hj⟩ := List.getElem?_of_mem hu
        have hjl := (List.getElem?_eq_some_iff.1 hj).1
        rw [hlen] at hjl
        rw [List.getElem?_take_of_lt hjl] at hj
        have h2 : ¬ u.nm = x := fun e => by have := hN j i u v hj hv (by rw [e, h]); omega
        simpa using h2
      rw [hno]
      simp [List.findIdx?_cons, h]
    · rw [if_neg h]
      cases hf : (l.take i).findIdx? (fun v => decide (v.nm = x)) <;> simp [List.findIdx?_cons, h]
/-- The work that work i undoes. -/
def tgt (l : List Wk) (i : Nat) : Option Nat :=
  match l[i]? with
  | none => none
  | some v => if v.kd = 4 then (match findN l v.onm with | some k => if k < i then some k else none | none => none) else none
def tgtI (l : List Wk) (i : Nat) : Int := match tgt l i with | some k => (k : Int) | none => -1
/-- Work i's undo carried out. -/
def undS (l : List Wk) (i : Nat) (out : List Bool) : List Bool :=
  match tgt l i with
  | some k => if out.getD i false then out else out.set k true
  | none => out
/-- What is undone, works p and later having been looked at. -/
def undAt (l : List Wk) : Nat → List Bool
  | 0 => List.replicate l.length false
  | m + 1 => undS l (l.length - 1 - m) (undAt l m)
def undL (l : List Wk) : List Bool := undAt l l.length
theorem undS_len (l : List Wk) (i : Nat) (out : List Bool) : (undS l i out).length = out.length := by
  unfold undS
  split
  · split <;> simp
  · rfl
theorem undAt_len (l : List Wk) : ∀ m, (undAt l m).length = l.length
  | 0 => by simp [undAt]
  | m + 1 => by rw [undAt, undS_len, undAt_len l m]
theorem tgt_lt {l : List Wk} {i k : Nat} (h : tgt l i = some k) : k < i := by
  unfold tgt at h
  cases hv : l[i]? with
  | none => rw [hv] at h; cases h
  | some v =>
    rw [hv] at h
    simp only at h
    split at h
    · split at h
      · split at h
        · injection h with h; omega
        · cases h
      · cases h
    · cases h
end Go.Proofs.Ytjbpdimepckmfaa

namespace Go.Proofs.Ytjbpdimepckmfaa
open Go.RowKit Go.Kq

set_option maxHeartbeats 2000000 in
set_option maxRecDepth 100000 in
theorem rbefore_any (a b : Wk) (w : World) : Calls Try.prog 43 #[a.val, b.val] w fun e w' => e = .returned (.bool (ltW a b)) ∧ Kp No w w' := by
  obtain ⟨a0, a1, a2, a3, a4, a5, a6, a7, a8, a9, a10⟩ := a
  obtain ⟨b0, b1, b2, b3, b4, b5, b6, b7, b8, b9, b10⟩ := b
  simp only [Wk.val, ltW]
  rcases Int.lt_trichotomy a2 b2 with h2 | h2 | h2
  · have e2 : (a2 != b2) = true := by simp; omega
    go_enter Try.func43, Try.ntmps43
    go_wp2
    all_goals
      go_ret
      exact ⟨ret_bool (by rw [Bool.eq_iff_iff]; simp; omega), (Kp.alloc _ _ _).tr (Kp.alloc _ _ _)⟩
  · subst h2
    rcases Int.lt_trichotomy a0 b0 with h0 | h0 | h0
    · have e0 : (a0 != b0) = true := by simp; omega
      go_enter Try.func43, Try.ntmps43
      go_wp2
      all_goals
        go_ret
        exact ⟨ret_bool (by rw [Bool.eq_iff_iff]; simp; omega), (Kp.alloc _ _ _).tr (Kp.alloc _ _ _)⟩
    · subst h0
      go_enter Try.func43, Try.ntmps43
      go_wp2
      all_goals
        go_ret
        exact ⟨ret_bool (by rw [Bool.eq_iff_iff]; simp), (Kp.alloc _ _ _).tr (Kp.alloc _ _ _)⟩
    · have e0 : (a0 != b0) = true := by simp; omega
      go_enter Try.func43, Try.ntmps43
      go_wp2
      all_goals
        go_ret
        exact ⟨ret_bool (by rw [Bool.eq_iff_iff]; simp; omega), (Kp.alloc _ _ _).tr (Kp.alloc _ _ _)⟩
  · have e2 : (a2 != b2) = true := by simp; omega
    go_enter Try.func43, Try.ntmps43
    go_wp2
    all_goals
      go_ret
      exact ⟨ret_bool (by rw [Bool.eq_iff_iff]; simp; omega), (Kp.alloc _ _ _).tr (Kp.alloc _ _ _)⟩
set_option maxHeartbeats 2000000 in
theorem rmany_any (A : Option Addr) (n ca : Nat) (l : List Wk) (k : Int) (w : World) (hx : RdW w A n l) (hn : n ≤ 1000) : Calls Try.prog 44 #[.slice A n ca, .int .i64 k] w fun e w' => e = .returned (.int .i64 (many l k)) ∧ w' = w := by
  have hl := hx.1
  go_enter Try.func44, Try.ntmps44
  go_wp2_with fail
  go_loop [5, 6] (fun vn vi => ∃ i : Nat, i ≤ n ∧ vi = .int .i64 i ∧ vn = .int .i64 (many (l.take i) k)) (fun _ vi => n - (intOf vi).toNat)
  case atStart => exact ⟨0, by omega, rfl, rfl⟩
  case round =>
    obtain ⟨i, hi, rfl, rfl⟩ := hrel
    by_cases hlt : i < n
    · obtain ⟨v, hv⟩ : ∃ v, l[i]? = some v := ⟨_, List.getElem?_eq_getElem (by omega)⟩
      obtain ⟨b, o, rfl, hb, hat⟩ := RdW.at_ hx hv
      have c0 := hat.1
      have HT := Lib.hid (show many (l.take (i + 1)) k = many (l.take i) k + if v.wk = k then 1 else 0 by rw [List.take_add_one, hv]; exact many_snoc _ _ _)
      have hm : many (l.take i) k ≤ 1000 := by have := many_le (l.take i) k; rw [List.length_take] at this; omega
      clear hat hv
      by_cases h : v.wk = k
      · have e : (v.wk == k) = true := by rw [beq_iff_eq]; exact h
        have HT2 := Lib.hid (HT.out.trans (by rw [if_pos h]))
        clear h
        go_wp2
        go_round
        case rel => exact ⟨i + 1, by omega, by go_num, by rw [HT2.out]; go_num⟩
        case measure => simp [intOf]; omega
      · have e : (v.wk == k) = false := by rw [beq_eq_false_iff_ne]; exact h
        have HT2 : Hid (many (l.take (i + 1)) k = many (l.take i) k) := Lib.hid (by rw [HT.out, if_neg h, Nat.add_zero])
        clear h
        go_wp2
        go_round
        case rel => exact ⟨i + 1, by omega, by go_num, by rw [HT2.out]⟩
        case measure => simp [intOf]; omega
    · obtain rfl : i = n := by omega
      go_wp2
      go_ret
      exact ⟨ret_i64 (by rw [List.take_of_length_le (by omega)]), rfl⟩
end Go.Proofs.Ytjbpdimepckmfaa
