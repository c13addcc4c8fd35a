/- Guarded operations in a region that draws its order: run or passed over. No program in sight. · Chapter 33: walks of the reference's before and less. · An append onto a row of the call's own of whatever slice, nil too. No program in sight. -/
import Derived.Maps.AppendAt
import Derived.WalkKit
import Derived.OwnWalk
import Derived.Laws.OwnMore
import Derived.Test.YtfflhlmnfhfcgaaXLibReg
import Derived.Test.YtfflhlmnfhfcgaaXRfSr
namespace Go.Kq
open Go.RowKit

section
variable {P : Program} {Q : Exit → Act → World → Prop} {l : List Oper} {i j : Nat} {o x : Oper} {t : Tmp} {want b : Bool} {a : Act} {w : World} {K : Act → World → Prop}
theorem yielded_of (hj : l[j]? = some x) (hx : x.dst = some t) (hv : a.tmps.getD t undef = .bool b) : yielded l.toArray a.tmps j = some b := by
  have h1 : a.tmps[t]? = some (.bool b) := by
    cases h : a.tmps[t]? with
    | none =>
      rw [Array.getD_eq_getD_getElem?, h] at hv
      cases hv
    | some u =>
      rw [Array.getD_eq_getD_getElem?, h] at hv
      exact congrArg some hv
  have h2 : l.toArray[j]? = some x := by simpa using hj
  unfold yielded
  rw [h2]
  simp only [Option.bind_some, hx, h1]
theorem wpOp_run (ho : l[i]? = some o) (hg : o.guard = some (j, want)) (hj : l[j]? = some x) (hx : x.dst = some t) (hv : a.tmps.getD t undef = .bool want) (h : o.wp P a w K Q) : wpOp P l.toArray Q i K a w := by
  unfold wpOp
  have h2 : l.toArray[i]? = some o := by simpa using ho
  rw [h2]
  have h3 : Region.wanted o (yielded l.toArray a.tmps) = true := by
    unfold Region.wanted
    simp only [hg, yielded_of hj hx hv, beq_self_eq_true]
  simp only [h3, if_true]
  exact .inl h
theorem wpOp_skip (ho : l[i]? = some o) (hg : o.guard = some (j, want)) (hj : l[j]? = some x) (hx : x.dst = some t) (hv : a.tmps.getD t undef = .bool b) (hb : b ≠ want) (h : K (a.put o.dst undef) w) : wpOp P l.toArray Q i K a w := by
  unfold wpOp
  have h2 : l.toArray[i]? = some o := by simpa using ho
  rw [h2]
  have h3 : Region.wanted o (yielded l.toArray a.tmps) = false := by
    unfold Region.wanted
    simp only [hg, yielded_of hj hx hv]
    simpa using hb
  simp only [h3]
  exact h
/-- A slot that only one operation of the region writes, which has not run. -/
def onlyB (l : List Oper) (t : Tmp) (i : Nat) : Bool := (List.range l.length).all fun j => decide (j = i) || match l[j]? with
  | some o => match o.dst with
    | some d => decide (d ≠ t)
    | none => true
  | none => true
theorem Fr.evalLate {a0 : Act} {r : Nat → Option Value} (h : Fr l.toArray a0 r a) (t : Tmp) (i : Nat) (hf : onlyB l t i = true) (hr : r i = none) : a.tmps.getD t undef = a0.tmps.getD t undef := by
  have := h.rest t fun j o hj ho => by
    have hj' : l[j]? = some o := by simpa using hj
    have hlt := (List.getElem?_eq_some_iff.1 hj').1
    have h1 := List.all_eq_true.1 hf j (List.mem_range.2 hlt)
    rw [hj'] at h1
    simp only [ho] at h1
    by_cases e : j = i
    · rw [e]
      exact hr
    · simp [e] at h1
  simp [this]
end
end Go.Kq

namespace Go.Proofs.Ytfflhlmnfhfcgaa
open Go.RowKit Go.Kq

set_option maxHeartbeats 1000000 in
theorem before_any (a b : Vc) (w : World) : Calls Try.prog 68 #[a.val, b.val] w fun e w' => e = .returned (.bool (decide (Bef a b))) ∧ Kp No w w' := by
  obtain ⟨d, p, f, q⟩ := a
  obtain ⟨d', p', f', q'⟩ := b
  simp only [Vc.val]
  by_cases hd : d = d'
  · subst hd
    by_cases hp : p = p'
    · subst hp
      go_enter Try.func68, Try.ntmps68
      go_wp2
      all_goals
        go_ret
        refine ⟨ret_bool ?_, (Kp.alloc _ _ _).tr (Kp.alloc _ _ _)⟩
        rw [Bool.eq_iff_iff]
        simp [Bef]
    · have hb : (p == p') = false := by rw [beq_eq_false_iff_ne]; exact hp
      have HP := Lib.hid hp
      clear hp
      go_enter Try.func68, Try.ntmps68
      go_wp2
      all_goals
        go_ret
        refine ⟨ret_bool ?_, (Kp.alloc _ _ _).tr (Kp.alloc _ _ _)⟩
        have := HP.out
        rw [Bool.eq_iff_iff]
        simp [Bef, this]
        try omega
  · have hb : (d == d') = false := by rw [beq_eq_false_iff_ne]; exact hd
    have HD := Lib.hid hd
    clear hd
    go_enter Try.func68, Try.ntmps68
    go_wp2
    all_goals
      go_ret
      refine ⟨ret_bool ?_, (Kp.alloc _ _ _).tr (Kp.alloc _ _ _)⟩
      have := HD.out
      rw [Bool.eq_iff_iff]
      simp [Bef, this]
      try omega
theorem lex_step (A B : List Nat) : ∀ (k : Nat), A.take k = B.take k → lexlt A B = lexlt (A.drop k) (B.drop k)
  | 0, _ => rfl
  | k + 1, h => by
    cases A with
    | nil =>
      cases B with
      | nil => rfl
      | cons b B => simp at h
    | cons a A =>
      cases B with
      | nil => simp at h
      | cons b B =>
        simp only [List.take_succ_cons, List.cons.injEq] at h
        obtain ⟨rfl, h⟩ := h
        have := lex_step A B k h
        simp [lexlt, this]
set_option maxHeartbeats 1000000 in
theorem less_any (A B : Option Addr) (n ca cb : Nat) (xs ys : List Nat) (w : World) (hx : RdI w A n (xs.map Int.ofNat)) (hy : RdI w B n (ys.map Int.ofNat)) (hn : n ≤ 100000000) :
    Calls Try.prog 54 #[.slice A n ca, .slice B n cb] w fun e w' => e = .returned (.bool (lexlt xs ys)) ∧ Kp No w w' := by
  have hxl : xs.length = n := by simpa using hx.1
  have hyl : ys.length = n := by simpa using hy.1
  go_enter Try.func54, Try.ntmps54
  go_wp2_with fail
  go_loopw [5] (fun i wr => ∃ k : Nat, k ≤ n ∧ i = .int .i64 k ∧ xs.take k = ys.take k ∧ Kp No w wr) (fun i _ => n - (intOf i).toNat)
  case atStart => exact ⟨0, by omega, rfl, by simp, Kp.refl _ _⟩
  case round =>
    obtain ⟨k, hk, rfl, hno, hkp⟩ := hrel
    by_cases hlt : k < n
    · obtain ⟨x, hxk⟩ : ∃ x, xs[k]? = some x := ⟨_, List.getElem?_eq_getElem (by omega)⟩
      obtain ⟨y, hyk⟩ : ∃ y, ys[k]? = some y := ⟨_, List.getElem?_eq_getElem (by omega)⟩
      obtain ⟨b, o, rfl, c0⟩ := (hx.no hkp).2 k x (by rw [List.getElem?_map, hxk]; rfl)
      obtain ⟨b', o', rfl, c1⟩ := (hy.no hkp).2 k y (by rw [List.getElem?_map, hyk]; rfl)
      replace c0 : wr.cell? ⟨b, o + k, none⟩ = some (.int .i64 (x : Int)) := c0
      replace c1 : wr.cell? ⟨b', o' + k, none⟩ = some (.int .i64 (y : Int)) := c1
      have Ht := Lib.hid hno
      have X := Lib.hid hxk
      have Y := Lib.hid hyk
      clear hno hxk hyk
      by_cases hxy : x = y
      · subst hxy
        go_wp2_with fail
        go_quiet (fail)
        go_wp2_with fail
        go_roundw
        case rel => exact ⟨k + 1, by omega, by go_num, by rw [List.take_add_one, List.take_add_one, Ht.out, X.out, Y.out], hkp.tr (Kp.drewN _ _ _)⟩
        case measure => simp [intOf]; omega
      · have hb : ((x : Int) == (y : Int)) = false := by rw [beq_eq_false_iff_ne]; omega
        have HN := Lib.hid hxy
        have hres : decide (x < y) = lexlt xs ys := by
          rw [lex_step xs ys k Ht.out]
          rw [List.drop_eq_getElem_cons (show k < xs.length by omega), List.drop_eq_getElem_cons (show k < ys.length by omega)]
          have e1 : xs[k]'(by omega) = x := (List.getElem?_eq_some_iff.1 X.out).2
          have e2 : ys[k]'(by omega) = y := (List.getElem?_eq_some_iff.1 Y.out).2
          rw [e1, e2]
          simp [lexlt, HN.out]
        have HR := Lib.hid hres
        clear hxy hres
        go_wp2_with fail
        go_quiet (fail)
        go_wp2_with fail
        go_quiet (fail)
        go_wp2_with fail
        go_ret
        exact ⟨ret_bool (by rw [← HR.out]; try simp), (hkp.tr (Kp.drewN _ _ _)).tr (Kp.drewN _ _ _)⟩
    · have hres : lexlt xs ys = false := by
        rw [List.take_of_length_le (by omega), List.take_of_length_le (by omega)] at hno
        rw [hno]
        exact lex_irr _
      have HE := Lib.hid hres
      clear hres hno
      go_wp2
      go_ret
      exact ⟨ret_bool (by rw [HE.out]), hkp⟩
end Go.Proofs.Ytfflhlmnfhfcgaa

namespace Go.Kq
open Go.RowKit

theorem wpL_append_any {P : Program} {w : World} {ops : Array Oper} {rest : List Oper} {o : Oper} {a : Act} {Q : Exit → Act → World → Prop} (hgd : o.guard = none) (s x : Operand) (t : TypeId)
    (ho : o.op = .call { callee := .builtin .append, args := #[s, x], argTypes := #[t, t] })
    (base : Nat) (e : TypeId) (i : TypeInfo) (z : Value) (size bytes : Nat) (ht : P.underlying t = some (.slice e)) (hi : P.info? e = some i) (hz : i.zero = some z)
    (hsize : i.size = size) (hby : i.bytes = bytes) (hzs : z.cells.size = size) (hsz : 0 < size)
    (v : Value) (n : Nat) (xs : List Value) (hs : a.eval s = v) (hown : w.ownsRow base e size v n xs)
    (ao : Option Addr) (m c : Nat) (news : List Value) (hx : a.eval x = .slice ao m c) (hl : news.length = m * size) (hnone : ao = none → m = 0 ∧ c = 0) (hnews : ∀ ad, ao = some ad → ∀ j u, news[j]? = some u → w.cell? (ad.add j) = some u) (h1 : ∀ u ∈ news, u.oneCell' = true)
    (h63 : n + m ≤ maxLen) (hbytes : (n + m) * bytes ≤ 140737488355328) (hbase : base ≤ w.heap.size)
    (h : ∀ v' w', w'.ownsRow base e size v' (n + m) (xs ++ news) → w.grownBy w' v.ownBlock → (v'.ownBlock = v.ownBlock ∨ v'.ownBlock = some w.heap.size) → wpList P ops Q rest (a.put o.dst v') w') :
    wpList P ops Q (o :: rest) a w := by
  cases ao with
  | some ad => exact wpList_append_own_at (w := w) hgd s x t ho base e i z size bytes ht hi hz hsize hby hzs hsz v n xs hs hown ad m c news hx hl (hnews ad rfl) h1 h63 hbytes hbase fun v' w' h2 h3 _ h5 => h v' w' h2 h3 h5
  | none =>
    obtain ⟨rfl, rfl⟩ := hnone rfl
    refine wpList_plain hgd fun K hK => ?_
    have hrun := run_append_owned_none (P := P) (w := w) base t o.type e i size ht hi v n xs hown
    have hn : news = [] := List.length_eq_zero_iff.1 (by simpa using hl)
    unfold Oper.wp execOp
    simp only [ho, resolve, invoke, builtin, Sem.run_bind, Sem.run_pure, Result.andThen_ok, List.map_toArray, List.map_cons, List.map_nil, hs, hx, hrun]
    exact hK _ _ (h v w (by simpa [hn] using hown) (World.grownBy.refl _ _) (.inl rfl))
end Go.Kq
