/- Chapter 27: target: the walk. · Chapter 27: the records of the examples. -/
import Derived.Test.YtjbpdimepckmfaaXUndP
import Derived.Test.YtjbpdimepckmfaaXSml
import Derived.Test.YtjbpdimepckmfaaXLibMakeM
namespace Go.Proofs.Ytjbpdimepckmfaa
open Go.RowKit Go.Kq

theorem zeroInt3 (w : World) : (zeroValue 3).run Try.prog w = .ok (.int .i64 0) w := by kernel_rfl
set_option maxHeartbeats 2000000 in
set_option maxRecDepth 100000 in
theorem target_any (A : Option Addr) (n ca B : Nat) (l : List Wk) (i : Nat) (w : World) (hx : RdW w A n l) (_hn : n ≤ 1000) (hi : i < n) (hN : Names l) (hm : MapAt w B en ei (ixL l n)) :
    Calls Try.prog 71 #[.slice A n ca, .map (some B), .int .i64 i] w fun e w' => e = .returned (.int .i64 (tgtI l i)) ∧ Kp No w w' := by
  have hl := hx.1
  obtain ⟨v, hv⟩ : ∃ v, l[i]? = some v := ⟨_, List.getElem?_eq_getElem (by omega)⟩
  have hg := ixL_get l hN n (by omega) v.onm
  rw [List.take_of_length_le (by omega)] at hg
  have HG := Lib.hid hg
  have HT := Lib.hid (show tgtI l i = (match (if v.kd = 4 then (match findN l v.onm with | some k => if k < i then some k else none | none => none) else none : Option Nat) with | some k => (k : Int) | none => -1) by unfold tgtI tgt; rw [hv]; try rfl)
  obtain ⟨b, o, rfl, hb, hat⟩ := RdW.at_ hx hv
  have hof := onamed_any b (o + i * 11) v w hat
  have HAT := Lib.hid hat
  have hB := hm.lt
  clear hat hg hv hN
  go_enter Try.func71, Try.ntmps71
  go_wp2_with fail
  refine hof.mono ?_
  rintro e w1 ⟨rfl, hk1⟩
  have hm1 : MapAt w1 B en ei (ixL l n) := hm.of_block (hk1.block B hB id)
  obtain ⟨_, _, _, c3, _⟩ := HAT.out.no hk1
  have hlk : (Instr.lookup 69 (.map (some B)) (nameV v.ow v.on) true).run Try.prog w1 = .ok (.tuple #[.int .i64 ((get1 (ixL l n) v.onm).getD 0), .bool (get1 (ixL l n) v.onm).isSome]) w1 := hm1.run_lookup nameOk Try.underlying69 (zeroInt3 _) v.onm true
  rw [HG.out] at hlk
  have HAT1 := Lib.hid (HAT.out.no hk1)
  clear hof
  cases hf : findN l v.onm with
  | none =>
    rw [hf] at hlk
    have hT : tgtI l i = -1 := by rw [HT.out, hf]; simp
    have HT2 := Lib.hid hT
    simp only [Option.map_none, Option.getD_none, Option.isSome_none] at hlk
    clear hT hf
    go_wp2_with fail
    all_goals
      go_ret
      exact ⟨ret_i64 (by rw [HT2.out]), hk1⟩
  | some k =>
    rw [hf] at hlk
    simp only [Option.map_some, Option.getD_some, Option.isSome_some] at hlk
    by_cases hk4 : v.kd = 4
    · have e4 : (v.kd == 4) = true := by rw [beq_iff_eq]; exact hk4
      by_cases hki : k < i
      · have hT : tgtI l i = k := by rw [HT.out, hf, if_pos hk4]; simp only; rw [if_pos hki]
        have HT2 := Lib.hid hT
        have hlt : decide ((k : Int) < (i : Int)) = true := by rw [decide_eq_true_eq]; omega
        clear hT hf hk4
        go_wp2_with fail
        all_goals
          go_ret
          exact ⟨ret_i64 (by rw [HT2.out]), hk1⟩
      · have hT : tgtI l i = -1 := by rw [HT.out, hf, if_pos hk4]; simp only; rw [if_neg hki]
        have HT2 := Lib.hid hT
        have hlt : decide ((k : Int) < (i : Int)) = false := by rw [decide_eq_false_iff_not]; omega
        clear hT hf hk4
        go_wp2_with fail
        all_goals
          go_ret
          exact ⟨ret_i64 (by rw [HT2.out]), hk1⟩
    · have e4 : (v.kd == 4) = false := by rw [beq_eq_false_iff_ne]; exact hk4
      have hT : tgtI l i = -1 := by rw [HT.out, hf, if_neg hk4]
      have HT2 := Lib.hid hT
      clear hT hf hk4
      go_wp2_with fail
      all_goals
        go_ret
        exact ⟨ret_i64 (by rw [HT2.out]), hk1⟩
end Go.Proofs.Ytjbpdimepckmfaa

namespace Go.Proofs.Ytjbpdimepckmfaa
open Go.RowKit Go.Kq

def x1 : Wk := ⟨0, 1, 1, 1, 2, 60, 4, 50, 0, 0, ⟨#[]⟩⟩
def x2 : Wk := ⟨0, 2, 2, 2, 2, 60, 4, 7, 0, 0, ⟨#[]⟩⟩
def x3 : Wk := ⟨1, 1, 2, 4, 0, 0, 0, 0, 0, 1, ⟨#[]⟩⟩
set_option maxHeartbeats 1000000 in
theorem lpipe_any (w : World) : Calls Try.prog 41 #[] w fun e w' => e = .returned (.agg #[.int .i64 2, .int .i64 60]) ∧ Kp No w w' := by
  go_enter Try.func41, Try.ntmps41
  go_wp2
  have hk : Kp No w (w.alloc (.cells #[.int .i64 2, .int .i64 60] 39)) := Kp.alloc _ _ _
  have p0 : (w.alloc (.cells #[.int .i64 2, .int .i64 60] 39)).cell? ⟨w.heap.size, 0, none⟩ = some (.int .i64 2) := by go_simp
  have p1 : (w.alloc (.cells #[.int .i64 2, .int .i64 60] 39)).cell? ⟨w.heap.size, 1, none⟩ = some (.int .i64 60) := by go_simp
  generalize w.alloc (.cells #[.int .i64 2, .int .i64 60] 39) = w2 at p0 p1 hk ⊢
  exact bodyPost_ret (v := .agg #[.int .i64 2, .int .i64 60]) (by simp [results, Try.results41, go_sem, p0, p1]) rfl ⟨rfl, hk⟩
set_option maxHeartbeats 1000000 in
theorem First_any (w : World) : Calls Try.prog 39 #[] w fun e w' => ∃ v, e = .returned v ∧ w'.ownsRow w.heap.size 41 11 v 2 ([x1, x2].flatMap Wk.cells) ∧ Kp No w w' := by
  go_enter Try.func39, Try.ntmps39
  go_wp2_with fail
  refine (lpipe_any _).mono ?_
  rintro e w1 ⟨rfl, hk1⟩
  go_wp2_with fail
  refine (lpipe_any _).mono ?_
  rintro e w2 ⟨rfl, hk2⟩
  go_wp2_with fail
  go_ret
  refine ⟨_, rfl, ?_, (hk1.tr hk2).tr (Kp.alloc _ _ _)⟩
  exact own_mono (own_made (s := 11) (n := 2) (xs := [x1, x2].flatMap Wk.cells) w2 rfl (Nat.le_refl _) (by decide)) (Nat.le_trans hk1.size hk2.size)
set_option maxHeartbeats 1000000 in
theorem Second_any (w : World) : Calls Try.prog 40 #[] w fun e w' => ∃ v, e = .returned v ∧ w'.ownsRow w.heap.size 41 11 v 2 ([x1, x3].flatMap Wk.cells) ∧ Kp No w w' := by
  go_enter Try.func40, Try.ntmps40
  go_wp2_with fail
  refine (First_any _).mono ?_
  rintro e w1 ⟨v, rfl, how, hk1⟩
  obtain ⟨a, c, rfl, _, _, hA⟩ := own_form how
  obtain ⟨g, rfl⟩ := hA (by omega)
  have hr : RdW w1 (some ⟨g, 0, none⟩) 2 [x1, x2] := Rd.of_own wk_len (by omega) how
  obtain ⟨b, o, hbo, _, hat⟩ := RdW.at_ (i := 0) (v := x1) hr rfl
  cases hbo
  obtain ⟨c0, c1, c2, c3, c4, c5, c6, c7, c8, c9, c10⟩ := hat
  simp only [x1] at c0 c1 c2 c3 c4 c5 c6 c7 c8 c9 c10
  clear hr how hA
  go_wp2_with fail
  go_ret
  refine ⟨_, rfl, ?_, hk1.tr (Kp.alloc _ _ _)⟩
  exact own_mono (own_made (s := 11) (n := 2) (xs := [x1, x3].flatMap Wk.cells) w1 rfl (Nat.le_refl _) (by decide)) hk1.size
end Go.Proofs.Ytjbpdimepckmfaa
