/- Chapter 27: the reference's find: the walk. -/
import Derived.Test.YtjbpdimepckmfaaXMrgP
namespace Go.Proofs.Ytjbpdimepckmfaa
open Go.RowKit Go.Kq

def findI (l : List Wk) (x : Nm) : Int := match findN l x with
  | some k => (k : Int)
  | none => -1
theorem findI_at {l : List Wk} {i : Nat} {u : Wk} {x : Nm} (hu : l[i]? = some u) (hno : findN (l.take i) x = none) (he : u.nm = x) : findI l x = i := by
  have h : findN l x = some i := by
    unfold findN
    rw [List.findIdx?_eq_some_iff_getElem]
    obtain ⟨hi, hg⟩ := List.getElem?_eq_some_iff.1 hu
    refine ⟨hi, by rw [hg]; simpa using he, fun j hj => ?_⟩
    have h2 := findN_none.1 hno (l[j]'(by omega)) (List.mem_of_getElem? (i := j) (by rw [List.getElem?_take_of_lt hj, List.getElem?_eq_getElem (by omega)]))
    simpa using h2
  unfold findI
  rw [h]
theorem findN_take_succ {l : List Wk} {i : Nat} {u : Wk} {x : Nm} (hu : l[i]? = some u) (hno : findN (l.take i) x = none) (he : u.nm ≠ x) : findN (l.take (i + 1)) x = none := by
  refine findN_none.2 fun v hv => ?_
  rw [List.take_add_one, hu] at hv
  rcases List.mem_append.1 hv with hv | hv
  · exact findN_none.1 hno v hv
  · simp at hv
    subst hv
    exact he
set_option maxHeartbeats 1000000 in
theorem rfind_any (A : Option Addr) (n ca : Nat) (l : List Wk) (a b : Int) (w : World) (hx : RdW w A n l) (hn : n ≤ 1000) :
    Calls Try.prog 57 #[.slice A n ca, .int .i64 a, .int .i64 b] w fun e w' => e = .returned (.int .i64 (findI l (a, b))) ∧ w' = w := by
  have HL := Lib.hid hx.1
  go_enter Try.func57, Try.ntmps57
  go_wp2_with fail
  go_loop [7] (fun vi => ∃ i : Nat, i ≤ n ∧ vi = .int .i64 i ∧ findN (l.take i) (a, b) = none) (fun vi => n - (intOf vi).toNat)
  case atStart => exact ⟨0, by omega, rfl, rfl⟩
  case round =>
    obtain ⟨i, hi, rfl, hno⟩ := hrel
    have HN := Lib.hid hno
    clear hno
    by_cases hlt : i < n
    · obtain ⟨u, hu⟩ : ∃ u, l[i]? = some u := ⟨_, List.getElem?_eq_getElem (by rw [HL.out]; omega)⟩
      obtain ⟨bu, ou, rfl, _, c0, c1, _⟩ := RdW.at_ hx hu
      have HU := Lib.hid hu
      clear hu
      by_cases e0 : u.wk = a
      · have q0 : (u.wk == a) = true := by rw [beq_iff_eq]; exact e0
        by_cases e1 : u.num = b
        · have q1 : (u.num == b) = true := by rw [beq_iff_eq]; exact e1
          have HF := Lib.hid (findI_at HU.out HN.out (by unfold Wk.nm; rw [e0, e1]))
          clear e0 e1
          go_wp2
          go_ret
          exact ⟨ret_i64 HF.out.symm, rfl⟩
        · have q1 : (u.num == b) = false := by rw [beq_eq_false_iff_ne]; exact e1
          have HF := Lib.hid (findN_take_succ (x := (a, b)) HU.out HN.out (by unfold Wk.nm; simp [e1]))
          clear e0 e1
          go_wp2
          go_round
          case rel => exact ⟨i + 1, by omega, by go_num, HF.out⟩
          case measure => simp [intOf]; omega
      · have q0 : (u.wk == a) = false := by rw [beq_eq_false_iff_ne]; exact e0
        have HF := Lib.hid (findN_take_succ (x := (a, b)) HU.out HN.out (by unfold Wk.nm; simp [e0]))
        clear e0
        go_wp2
        go_round
        case rel => exact ⟨i + 1, by omega, by go_num, HF.out⟩
        case measure => simp [intOf]; omega
    · obtain rfl : i = n := by omega
      have HF := Lib.hid (show findI l (a, b) = -1 by have h := HN.out; rw [List.take_of_length_le (by rw [HL.out]; omega)] at h; unfold findI; rw [h])
      go_wp2
      go_ret
      exact ⟨ret_i64 HF.out.symm, rfl⟩
end Go.Proofs.Ytjbpdimepckmfaa
