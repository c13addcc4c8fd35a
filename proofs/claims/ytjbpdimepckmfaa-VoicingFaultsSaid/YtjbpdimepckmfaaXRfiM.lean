/- Chapter 27: the statements' counting: plain and the walk. · Chapter 27: the reference's find: the walk. -/
import Derived.Test.YtjbpdimepckmfaaXExmM
import Derived.Test.YtjbpdimepckmfaaXMrgP
namespace Go.Proofs.Ytjbpdimepckmfaa
open Go.RowKit Go.Kq

/-- Is work k the one that work i names? -/
def hits (l : List Wk) (i k : Nat) : Bool := match l[i]?, l[k]? with
  | some v, some u => decide (u.nm = v.onm)
  | _, _ => false
/-- The works ahead of k that work i names are struck. -/
def lawK (l : List Wk) (i : Nat) : Nat → List Bool → List Bool
  | 0, out => out
  | k + 1, out => if hits l i k then (lawK l i k out).set k false else lawK l i k out
def isU (l : List Wk) (i : Nat) : Bool := match l[i]? with
  | some v => decide (v.kd = 4)
  | none => false
def lawS (l : List Wk) (i : Nat) (out : List Bool) : List Bool := if out.getD i false && isU l i then lawK l i i out else out
def law0 (n : Nat) (wo : Int) : List Bool := (List.range n).map fun i : Nat => (i : Int) != wo
def lawAt (l : List Wk) (wo : Int) : Nat → List Bool
  | 0 => law0 l.length wo
  | m + 1 => lawS l (l.length - 1 - m) (lawAt l wo m)
def lawL (l : List Wk) (wo : Int) : List Bool := lawAt l wo l.length
theorem lawK_len (l : List Wk) (i : Nat) (out : List Bool) : ∀ k, (lawK l i k out).length = out.length
  | 0 => rfl
  | k + 1 => by
    rw [lawK]
    split
    · rw [List.length_set, lawK_len l i out k]
    · exact lawK_len l i out k
theorem lawS_len (l : List Wk) (i : Nat) (out : List Bool) : (lawS l i out).length = out.length := by
  unfold lawS
  split
  · exact lawK_len _ _ _ _
  · rfl
theorem lawAt_len (l : List Wk) (wo : Int) : ∀ m, (lawAt l wo m).length = l.length
  | 0 => by simp [lawAt, law0]
  | m + 1 => by rw [lawAt, lawS_len, lawAt_len l wo m]
theorem lawK_ge (l : List Wk) (i : Nat) (out : List Bool) : ∀ k j, k ≤ j → (lawK l i k out)[j]? = out[j]?
  | 0, _, _ => rfl
  | k + 1, j, h => by
    rw [lawK]
    split
    · rw [List.getElem?_set_ne (by omega), lawK_ge l i out k j (by omega)]
    · exact lawK_ge l i out k j (by omega)
/-- Names being apart, at most one work is struck. -/
theorem lawK_one {l : List Wk} (hN : Names l) {i : Nat} {v : Wk} (hv : l[i]? = some v) (out : List Bool) : ∀ k, k ≤ l.length → lawK l i k out = match findN (l.take k) v.onm with | some j => out.set j false | none => out
  | 0, _ => rfl
  | k + 1, hk => by
    obtain ⟨u, hu⟩ : ∃ u, l[k]? = some u := ⟨_, List.getElem?_eq_getElem (by omega)⟩
    have hh : hits l i k = decide (u.nm = v.onm) := by unfold hits; rw [hv, hu]
    have hlen : (l.take k).length = k := by rw [List.length_take]; omega
    rw [lawK, hh, lawK_one hN hv out k (by omega), List.take_add_one, hu]
    unfold findN
    rw [Option.toList_some, List.findIdx?_append, hlen]
    by_cases h : u.nm = v.onm
    · rw [if_pos (by simpa using h)]
      have hno : (l.take k).findIdx? (fun x => decide (x.nm = v.onm)) = none := by
        rw [List.findIdx?_eq_none_iff]
        intro x hx
        obtain ⟨j, hj⟩ := List.getElem?_of_mem hx
        have hjl := (List.getElem?_eq_some_iff.1 hj).1
        rw [hlen] at hjl
        rw [List.getElem?_take_of_lt hjl] at hj
        have h2 : ¬ x.nm = v.onm := fun e => by have := hN j k x u hj hu (by rw [e, h]); omega
        simpa using h2
      rw [hno]
      simp [List.findIdx?_cons, h]
    · rw [if_neg (by simpa using h)]
      cases hf : (l.take k).findIdx? (fun x => decide (x.nm = v.onm)) <;> simp [List.findIdx?_cons, h]
theorem findN_take {l : List Wk} (hN : Names l) {i : Nat} (x : Nm) : findN (l.take i) x = match findN l x with | some k => if k < i then some k else none | none => none := by
  cases h : findN l x with
  | none =>
    have h2 := findN_none.1 h
    exact findN_none.2 fun u hu => h2 u (List.mem_of_mem_take hu)
  | some k =>
    obtain ⟨u, hu, hx⟩ := findN_at h
    simp only
    by_cases hk : k < i
    · rw [if_pos hk]
      have hN2 : Names (l.take i) := fun a b p q hp hq e => by
        have ha := (List.getElem?_eq_some_iff.1 hp).1
        have hb := (List.getElem?_eq_some_iff.1 hq).1
        rw [List.length_take] at ha hb
        rw [List.getElem?_take_of_lt (by omega)] at hp hq
        exact hN a b p q hp hq e
      rw [← hx]
      exact findN_of hN2 (by rw [List.getElem?_take_of_lt hk]; exact hu)
    · rw [if_neg hk]
      refine findN_none.2 fun v hv e => ?_
      obtain ⟨j, hj⟩ := List.getElem?_of_mem hv
      have hjl := (List.getElem?_eq_some_iff.1 hj).1
      rw [List.length_take] at hjl
      rw [List.getElem?_take_of_lt (by omega)] at hj
      have := hN j k v u hj hu (by rw [e, hx])
      omega
/-- A step of the statements' counting strikes the work that the program says is undone. -/
theorem lawS_eq {l : List Wk} (hN : Names l) (i : Nat) (out : List Bool) : lawS l i out = match tgt l i with | some k => if out.getD i false then out.set k false else out | none => out := by
  unfold lawS isU tgt
  cases hv : l[i]? with
  | none => simp
  | some v =>
    have hi := (List.getElem?_eq_some_iff.1 hv).1
    simp only
    by_cases h4 : v.kd = 4
    · have e1 : decide (v.kd = 4) = true := decide_eq_true h4
      simp only [e1, Bool.and_true]
      rw [if_pos h4, lawK_one hN hv out i (by omega), findN_take hN]
      cases hf : findN l v.onm with
      | none => simp
      | some k =>
        simp only
        by_cases hk : k < i
        · rw [if_pos hk]
        · rw [if_neg hk]
          simp
    · have e1 : decide (v.kd = 4) = false := decide_eq_false h4
      simp only [e1, Bool.and_false]
      rw [if_neg h4]
      rfl
theorem map_not_set (l : List Bool) (k : Nat) (b : Bool) : (l.set k b).map (!·) = (l.map (!·)).set k (!b) := by rw [List.map_set]
/-- With none left out: what counts is what is not undone. -/
theorem lawAt_und {l : List Wk} (hN : Names l) : ∀ m, m ≤ l.length → lawAt l (-1) m = (undAt l m).map (!·)
  | 0, _ => by
    unfold lawAt undAt law0
    rw [List.map_replicate]
    apply List.ext_getElem?
    intro i
    by_cases hi : i < l.length
    · rw [List.getElem?_map, List.getElem?_range hi, List.getElem?_replicate, if_pos hi]
      simp
    · rw [List.getElem?_eq_none (by simp; omega), List.getElem?_eq_none (by simp; omega)]
  | m + 1, hm => by
    rw [lawAt, undAt, lawAt_und hN m (by omega), lawS_eq hN]
    unfold undS
    cases ht : tgt l (l.length - 1 - m) with
    | none => rfl
    | some k =>
      simp only
      have hlt : l.length - 1 - m < (undAt l m).length := by rw [undAt_len]; omega
      obtain ⟨q, hq⟩ : ∃ q, (undAt l m)[l.length - 1 - m]? = some q := ⟨_, List.getElem?_eq_getElem hlt⟩
      rw [List.getD_eq_getElem?_getD, List.getD_eq_getElem?_getD, List.getElem?_map, hq]
      cases q
      · simp [List.map_set]
      · simp
theorem lawL_und {l : List Wk} (hN : Names l) : lawL l (-1) = (undL l).map (!·) := lawAt_und hN _ (Nat.le_refl _)
end Go.Proofs.Ytjbpdimepckmfaa

namespace Go.Proofs.Ytjbpdimepckmfaa
open Go.RowKit Go.Kq

def findI (l : List Wk) (x : Nm) : Int := match findN l x with
  | some k => (k : Int)
  | none => -1
theorem findI_at {l : List Wk} {i : Nat} {u : Wk} {x : Nm} (hu : l[i]? = some u) (hno : findN (l.take i) x = none) (he : u.nm = x) : findI l x = i := by
  have h : findN l x = some i := by
    unfold findN
    rw [List.findIdx?_eq_some_iff_getElem]
    obtain ⟨hi, hg⟩ := List.getElem?_eq_some_iff.1 hu
    refine ⟨hi, by rw [hg]; simpa using he, fun j hj => ?_⟩
    have h2 := findN_none.1 hno (l[j]'(by omega)) (List.mem_of_getElem? (i := j) (by rw [List.getElem?_take_of_lt hj, List.getElem?_eq_getElem (by omega)]))
    simpa using h2
  unfold findI
  rw [h]
theorem findN_take_succ {l : List Wk} {i : Nat} {u : Wk} {x : Nm} (hu : l[i]? = some u) (hno : findN (l.take i) x = none) (he : u.nm ≠ x) : findN (l.take (i + 1)) x = none := by
  refine findN_none.2 fun v hv => ?_
  rw [List.take_add_one, hu] at hv
  rcases List.mem_append.1 hv with hv | hv
  · exact findN_none.1 hno v hv
  · simp at hv
    subst hv
    exact he
set_option maxHeartbeats 1000000 in
theorem rfind_any (A : Option Addr) (n ca : Nat) (l : List Wk) (a b : Int) (w : World) (hx : RdW w A n l) (hn : n ≤ 1000) :
    Calls Try.prog 57 #[.slice A n ca, .int .i64 a, .int .i64 b] w fun e w' => e = .returned (.int .i64 (findI l (a, b))) ∧ w' = w := by
  have HL := Lib.hid hx.1
  go_enter Try.func57, Try.ntmps57
  go_wp2_with fail
  go_loop [7] (fun vi => ∃ i : Nat, i ≤ n ∧ vi = .int .i64 i ∧ findN (l.take i) (a, b) = none) (fun vi => n - (intOf vi).toNat)
  case atStart => exact ⟨0, by omega, rfl, rfl⟩
  case round =>
    obtain ⟨i, hi, rfl, hno⟩ := hrel
    have HN := Lib.hid hno
    clear hno
    by_cases hlt : i < n
    · obtain ⟨u, hu⟩ : ∃ u, l[i]? = some u := ⟨_, List.getElem?_eq_getElem (by rw [HL.out]; omega)⟩
      obtain ⟨bu, ou, rfl, _, c0, c1, _⟩ := RdW.at_ hx hu
      have HU := Lib.hid hu
      clear hu
      by_cases e0 : u.wk = a
      · have q0 : (u.wk == a) = true := by rw [beq_iff_eq]; exact e0
        by_cases e1 : u.num = b
        · have q1 : (u.num == b) = true := by rw [beq_iff_eq]; exact e1
          have HF := Lib.hid (findI_at HU.out HN.out (by unfold Wk.nm; rw [e0, e1]))
          clear e0 e1
          go_wp2
          go_ret
          exact ⟨ret_i64 HF.out.symm, rfl⟩
        · have q1 : (u.num == b) = false := by rw [beq_eq_false_iff_ne]; exact e1
          have HF := Lib.hid (findN_take_succ (x := (a, b)) HU.out HN.out (by unfold Wk.nm; simp [e1]))
          clear e0 e1
          go_wp2
          go_round
          case rel => exact ⟨i + 1, by omega, by go_num, HF.out⟩
          case measure => simp [intOf]; omega
      · have q0 : (u.wk == a) = false := by rw [beq_eq_false_iff_ne]; exact e0
        have HF := Lib.hid (findN_take_succ (x := (a, b)) HU.out HN.out (by unfold Wk.nm; simp [e0]))
        clear e0
        go_wp2
        go_round
        case rel => exact ⟨i + 1, by omega, by go_num, HF.out⟩
        case measure => simp [intOf]; omega
    · obtain rfl : i = n := by omega
      have HF := Lib.hid (show findI l (a, b) = -1 by have h := HN.out; rw [List.take_of_length_le (by rw [HL.out]; omega)] at h; unfold findI; rw [h])
      go_wp2
      go_ret
      exact ⟨ret_i64 HF.out.symm, rfl⟩
end Go.Proofs.Ytjbpdimepckmfaa
