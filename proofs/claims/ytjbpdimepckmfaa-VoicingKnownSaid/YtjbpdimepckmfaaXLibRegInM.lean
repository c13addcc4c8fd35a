/- cmp.Compare of integers, cmp.Or: contracts. · cmp.Compare of int64. · cmp.Or of integers. · Rows that make and literals lay: plain facts. No program in sight. · LibReg's rule inside the round of a loop over an iterator. No program in sight. -/
import Derived.Test.YtjbpdimepckmfaaProg
import Derived.KernelRfl
import Derived.StillTailTactics
import Derived.OrdersIn
import Derived.RangeFuncCalls
import Derived.TacticsIn
import Derived.OwnWalkIn
import Derived.Test.YtjbpdimepckmfaaXLibMapWM
import Derived.Test.YtjbpdimepckmfaaXLibReg
import Derived.Test.YtjbpdimepckmfaaXLibHvM
namespace Go.Proofs.Ytjbpdimepckmfaa
open Go.RowKit Go.Kq

def cmpI (x y : Int) : Int := if x < y then -1 else if y < x then 1 else 0
def orL : List Int → Int
  | [] => 0
  | x :: l => if x = 0 then orL l else x
theorem isNaNI (x : Int) (w : World) : Calls Try.prog 99 #[.int .i64 x] w fun e w' => e = .returned (.bool false) ∧ w' = w := by
  go_enter Try.func99, Try.ntmps99
  go_wp2
  go_ret
  exact ⟨ret_bool (by simp), rfl⟩
set_option maxHeartbeats 1000000 in
theorem cmpI_any (x y : Int) (w : World) : Calls Try.prog 79 #[.int .i64 x, .int .i64 y] w fun e w' => e = .returned (.int .i64 (cmpI x y)) ∧ w' = w := by
  go_enter Try.func79, Try.ntmps79
  go_wp2_with (go_at_call 99; refine (isNaNI _ _).mono ?_; rintro e w' ⟨rfl, rfl⟩)
  all_goals
    go_ret
    refine ⟨ret_i64 ?_, rfl⟩
    unfold cmpI
    (repeat' split) <;> first | rfl | (exfalso; omega)
end Go.Proofs.Ytjbpdimepckmfaa

namespace Go.Proofs.Ytjbpdimepckmfaa
open Go.RowKit Go.Kq
theorem isNaNL (x : Int) (w : World) : Calls Try.prog 98 #[.int .i64 x] w fun e w' => e = .returned (.bool false) ∧ w' = w := by
  go_enter Try.func98, Try.ntmps98
  go_wp2
  go_ret
  exact ⟨ret_bool (by simp), rfl⟩
set_option maxHeartbeats 1000000 in
theorem cmpL_any (x y : Int) (w : World) : Calls Try.prog 78 #[.int .i64 x, .int .i64 y] w fun e w' => e = .returned (.int .i64 (cmpI x y)) ∧ w' = w := by
  go_enter Try.func78, Try.ntmps78
  go_wp2_with (go_at_call 98; refine (isNaNL _ _).mono ?_; rintro e w' ⟨rfl, rfl⟩)
  all_goals
    go_ret
    refine ⟨ret_i64 ?_, rfl⟩
    unfold cmpI
    (repeat' split) <;> first | rfl | (exfalso; omega)
end Go.Proofs.Ytjbpdimepckmfaa

namespace Go.Proofs.Ytjbpdimepckmfaa
open Go.RowKit Go.Kq
theorem orL_drop : ∀ (xs : List Int) (k : Nat), (∀ j x, j < k → xs[j]? = some x → x = 0) → orL xs = orL (xs.drop k)
  | [], k, _ => by simp
  | x :: xs, 0, _ => rfl
  | x :: xs, k + 1, h => by
    have h0 := h 0 x (by omega) rfl
    rw [List.drop_succ_cons, ← orL_drop xs k fun j y hj hy => h (j + 1) y (by omega) (by simpa using hy)]
    simp [orL, h0]
set_option maxHeartbeats 1000000 in
theorem or_any (A : Option Addr) (n cap : Nat) (xs : List Int) (w : World) (hx : RdI .i64 w A n xs) (hn : n ≤ 1000000) :
    Calls Try.prog 77 #[.slice A n cap] w fun e w' => e = .returned (.int .i64 (orL xs)) ∧ w' = w := by
  have hl := hx.1
  go_enter Try.func77, Try.ntmps77
  go_wp2_with fail
  go_loop [8] (fun i => ∃ k : Nat, k ≤ n ∧ i = .int .i64 k ∧ ∀ j x, j < k → xs[j]? = some x → x = 0) (fun i => n - (intOf i).toNat)
  case atStart => exact ⟨0, by omega, rfl, fun j x h => by omega⟩
  case round =>
    obtain ⟨k, hk, rfl, hz⟩ := hrel
    have HZ := Lib.hid hz
    clear hz
    by_cases hlt : k < n
    · obtain ⟨x, hxk⟩ : ∃ x, xs[k]? = some x := ⟨_, List.getElem?_eq_getElem (by omega)⟩
      obtain ⟨b, o, rfl, hb, c0⟩ := hx.2 k x hxk
      have HX := Lib.hid hxk
      clear hxk
      by_cases h0 : x = 0
      · subst h0
        go_wp2
        go_round
        case rel =>
          refine ⟨k + 1, by omega, by go_num, fun j y hj hy => ?_⟩
          by_cases e : j = k
          · subst e
            have := HX.out
            rw [hy] at this
            cases this
            rfl
          · exact HZ.out j y (by omega) hy
        case measure => simp [intOf]; omega
      · have hne : (x == 0) = false := by rw [beq_eq_false_iff_ne]; exact h0
        go_wp2
        go_ret
        refine ⟨ret_i64 ?_, rfl⟩
        rw [orL_drop xs k HZ.out, List.drop_eq_getElem_cons (by omega)]
        have := HX.out
        rw [List.getElem?_eq_getElem (by omega)] at this
        simp at this
        simp [orL, this, h0]
    · go_wp2
      go_ret
      refine ⟨ret_i64 ?_, rfl⟩
      rw [orL_drop xs k HZ.out, List.drop_of_length_le (by omega)]
      rfl
end Go.Proofs.Ytjbpdimepckmfaa

namespace Go.Kq
open Go.RowKit

theorem made_flat {α : Type} (f : α → List Value) (x : α) (z : Array Value) (s n : Nat) (hz : z.size = s) (hs : 0 < s) (hf : f x = z.toList) : madeCells z (n * s) = ((List.replicate n x).flatMap f).toArray := by
  have hfl : ∀ y : Unit, ((fun _ : Unit => z.toList) y).length = s := fun _ => by simpa using hz
  have e : (List.replicate n x).flatMap f = (List.replicate n ()).flatMap fun _ => z.toList := by
    rw [List.flatMap_replicate, List.flatMap_replicate, hf]
  rw [e]
  apply Array.ext
  · rw [size_madeCells, List.size_toArray, flat_len hfl, List.length_replicate]
  · intro i h1 h2
    rw [size_madeCells] at h1
    have hd : i / s < n := Nat.div_lt_of_lt_mul (by rw [Nat.mul_comm]; exact h1)
    have hm : i % s < z.size := by rw [hz]; exact Nat.mod_lt _ hs
    have := flat_at hfl (List.replicate n ()) (i / s) () (i % s) z[i % s] (by simp [hd]) (by simp [hm])
    rw [Nat.div_add_mod'] at this
    obtain ⟨h3, h4⟩ := List.getElem?_eq_some_iff.1 this
    simp only [List.getElem_toArray]
    rw [h4]
    have hm' : z[i % s]! = z[i % s] := getElem!_pos z (i % s) hm
    simp [madeCells, hz, hm']
theorem own_made (w : World) {base e s n : Nat} {xs : List Value} (hl : xs.length = n * s) (hb : base ≤ w.heap.size) (hn : n ≤ maxLen) : (w.alloc (.cells xs.toArray e)).ownsRow base e s (.slice (some ⟨w.heap.size, 0, none⟩) n n) n xs :=
  ⟨hl, .inr ⟨_, n, xs.toArray, rfl, hb, heap_alloc_new w _, Nat.le_refl _, hn, by simpa using hl, by rw [← hl]; simp⟩⟩
theorem run_make_flat {P : Program} (w : World) {α : Type} (f : α → List Value) (x : α) (t e : TypeId) (i : TypeInfo) (z : Value) (s bytes n : Nat) (ht : P.underlying t = some (.slice e)) (hi : P.info? e = some i) (hz : i.zero = some z) (hsz : i.size = s) (hby : i.bytes = bytes) (hs : 0 < s) (hzs : z.cells.size = s) (hf : f x = z.cells.toList) (hb : bytes * n ≤ 281474976710656) (hn : n ≤ 9223372036854775807) :
    (Instr.makeSlice t (.int .i64 (n : Nat)) (.int .i64 (n : Nat))).run P w = .ok (.slice (some ⟨w.heap.size, 0, none⟩) n n) (w.alloc (.cells ((List.replicate n x).flatMap f).toArray e)) := by
  have h := run_make (P := P) w t e i z ht hi hz .i64 .i64 n n (by omega) (by omega) (by rw [hby, ← Int.natCast_mul]; omega) (by omega)
  rw [h, hsz, show (n : Int).toNat = n by omega, made_flat f x z.cells s n hzs hs hf]
end Go.Kq

namespace Go.Kq
open Go.RowKit
/-- What holds of an operation anywhere holds in a round. -/
theorem wpIn_of_wp {n : Nat} {P : Program} {o : Oper} {a : Act} {w : World} {K : Act → World → Prop} {Q : Exit → Act → World → Prop} {lp : Nat} (hd : ∀ c, o.op ≠ .defer c) (h : o.wp P a w K Q) : o.wpIn (Fence.wide.inRound lp) n P a w K Q := by
  refine ⟨fun _ _ => trivial, ?_⟩
  rw [Oper.semAt_plain _ _ _ hd]
  unfold Oper.wp at h
  generalize (execOp a.eval o).run P w = r at *
  cases r with
  | ok x w' =>
    cases x <;> simp only [Oper.uponIn, Oper.upon] at h ⊢ <;>
      first
        | exact h
        | exact ⟨fun h => (by cases h), CallsIn.inRound lp (callsIn_wide.2 h)⟩
        | exact ⟨fun h => (by cases h), fun c cs _ => let ⟨v, w2, r, s⟩ := h c cs; ⟨v, w2, r, stepsIn_wide.2 s⟩⟩
  | halt x w' => cases x <;> simp only [Oper.uponIn, Oper.upon] at h ⊢ <;> exact h
def isDefer : Op → Bool
  | .defer _ => true
  | _ => false
theorem not_defer {o : Op} (h : isDefer o = false) (c : Call) : o ≠ .defer c := fun e => by rw [e] at h; cases h
section
variable {P : Program} {ops : Array Oper} {Q : Exit → Act → World → Prop} {md : Region.Mode} {F : Fence} {n : Nat}

theorem wpAnyIn_inv (hb : backB md ops = true) (I : Array Bool → Act → World → Prop)
    (hstep : ∀ listed a w, I listed a w → listed.size = ops.size → ∀ i, i < ops.size → listed.getD i true = false →
      (∀ o, ops[i]? = some o → ∀ e ∈ o.after, Region.binds md e = true → listed.getD e.on false = true) → wpOpIn F n P ops Q i (I (listed.setIfInBounds i true)) a w)
    (hend : ∀ listed a w, I listed a w → (∀ i, i < ops.size → listed.getD i false = true) → Q .normal a w) :
    ∀ (fuel : Nat) (listed : Array Bool) (a : Act) (w : World), listed.size = ops.size → unl listed ops.size ≤ fuel → I listed a w → wpAnyIn F n P md ops Q fuel listed a w
  | 0, listed, a, w, hs, hl, hI => by
    have hz := unl_zero ops.size (by omega : unl listed ops.size = 0)
    refine ⟨?_, hend listed a w hI fun i hi => ?_⟩
    · cases hr : Region.ready md ops listed with
      | nil => rfl
      | cons x xs =>
        have hx : x ∈ Region.ready md ops listed := by rw [hr]; simp
        unfold Region.ready at hx
        obtain ⟨h1, h2⟩ := List.mem_filter.1 hx
        have := hz x (List.mem_range.1 h1)
        rw [this] at h2
        simp at h2
    · have := hz i hi
      have hsz : i < listed.size := by omega
      simp [hsz] at this ⊢
      exact this
  | fuel + 1, listed, a, w, hs, hl, hI => by
    refine ⟨fun h => hend listed a w hI (ready_nil hb hs h), fun i hi => ?_⟩
    have hi' := hi
    unfold Region.ready at hi'
    obtain ⟨h1, h2⟩ := List.mem_filter.1 hi'
    have hlt := List.mem_range.1 h1
    simp only [Bool.and_eq_true, Bool.not_eq_true'] at h2
    refine wpOpIn_mono (fun a' w' h' => ?_) (hstep listed a w hI hs i hlt h2.1 ?_)
    · have := unl_set h2.1 ops.size hlt
      exact wpAnyIn_inv hb I hstep hend fuel _ a' w' (by simpa using hs) (by omega) h'
    · intro o ho e he hbd
      have h3 := h2.2
      rw [ho] at h3
      simp only [Option.map_some, Option.getD_some] at h3
      have := Array.all_eq_true_iff_forall_mem.1 h3 e he
      rw [hbd] at this
      simpa using this

/-- THE RULE. -/
theorem wpIn_region_inv {id : Nat} {a : Act} {w : World} (hm : P.follows .mixedOrders = true) (hb : backB .any ops = true) (I : Array Bool → Act → World → Prop)
    (h0 : I (Array.replicate ops.size false) a w.drew)
    (hstep : ∀ listed a w, I listed a w → listed.size = ops.size → ∀ i, i < ops.size → listed.getD i true = false →
      (∀ o, ops[i]? = some o → ∀ e ∈ o.after, Region.binds .any e = true → listed.getD e.on false = true) → wpOpIn F n P ops Q i (I (listed.setIfInBounds i true)) a w)
    (hend : ∀ listed a w, I listed a w → (∀ i, i < ops.size → listed.getD i false = true) → Q .normal a w) :
    (Code.region id ops true).wpIn F n P Q a w :=
  wpIn_region_any hm (wpAnyIn_inv hb I hstep hend ops.size _ a _ (by simp) (unl_le _ _) h0)
end
section
variable {P : Program} {ops : Array Oper} {Q : Exit → Act → World → Prop} {F : Fence} {n : Nat}
theorem wpIn_region_vals {id : Nat} {l : List Oper} {a0 : Act} {w : World} (G : Nat → Value → Prop) (W : (Nat → Option Value) → World → Prop)
    (hm : P.follows .mixedOrders = true) (hb : backB .any l.toArray = true) (hap : apartB l.toArray = true)
    (h0 : W (fun _ => none) w.drew)
    (hstep : ∀ r a w, Fr l.toArray a0 r a → (∀ j v, r j = some v → G j v) → W r w → ∀ i o, l[i]? = some o → r i = none → (∀ e ∈ o.after, Region.binds .any e = true → r e.on ≠ none) →
      ∀ K : Act → World → Prop, (∀ v w', G i v → W (upd r i v) w' → K (a.put o.dst v) w') → wpOpIn F n P l.toArray Q i K a w)
    (hend : ∀ r w, (∀ j v, r j = some v → G j v) → W r w → (∀ i, i < l.length → r i ≠ none) → Q .normal (putAll l ((List.range l.length).map fun i => (r i).getD undef) a0) w) :
    (Code.region id l.toArray true).wpIn F n P Q a0 w := by
  refine wpIn_region_inv hm hb (fun listed a w => ∃ r : Nat → Option Value, (∀ i, i < l.length → (listed.getD i false = true ↔ r i ≠ none)) ∧ (∀ i, l.length ≤ i → r i = none) ∧ Fr l.toArray a0 r a ∧ (∀ j v, r j = some v → G j v) ∧ W r w) ?_ ?_ ?_
  · refine ⟨fun _ => none, fun i hi => ?_, fun _ _ => rfl, Fr.start _ _, fun _ _ h => (by cases h), h0⟩
    simp [hi]
  · rintro listed a w ⟨r, hl, hn, hf, hg, hw⟩ hs i hi hli hdeps
    have hil : i < l.length := by simpa using hi
    have ho : l[i]? = some l[i] := List.getElem?_eq_getElem hil
    have ho' : l.toArray[i]? = some l[i] := by simp
    have hri : r i = none := by
      cases h : r i with
      | none => rfl
      | some v =>
        have := (hl i hil).2 (by rw [h]; simp)
        have hsz : i < listed.size := by omega
        simp [hsz] at this hli
        rw [this] at hli
        cases hli
    refine hstep r a w hf hg hw i _ ho hri (fun e he hbd => ?_) _ fun v w' hgv hw' => ?_
    · have h1 := hdeps _ ho' e he hbd
      refine (hl e.on ?_).1 h1
      rcases Nat.lt_or_ge e.on listed.size with h' | h'
      · rw [hs] at h'; simpa using h'
      · simp [Array.getElem?_eq_none h'] at h1
    · refine ⟨upd r i v, fun j hj => ?_, fun j hj => ?_, hf.put hap ho' v, fun j u hu => ?_, hw'⟩
      · by_cases hji : j = i
        · subst hji
          have hsz : j < listed.size := by omega
          simp [upd_same, hsz]
        · rw [upd_ne _ _ hji, ← hl j hj]
          simp [Array.getElem?_setIfInBounds_ne (fun e => hji e.symm)]
      · rw [upd_ne _ _ (by omega)]; exact hn j hj
      · by_cases hji : j = i
        · subst hji
          rw [upd_same] at hu
          cases hu
          exact hgv
        · rw [upd_ne _ _ hji] at hu
          exact hg j u hu
  · rintro listed a w ⟨r, hl, hn, hf, hg, hw⟩ hall
    have hr : ∀ i, i < l.length → r i ≠ none := fun i hi => (hl i hi).1 (hall i (by rw [List.size_toArray]; exact hi))
    obtain ⟨q', g1, g2, g3⟩ := putAll_fr (r := r) hap l 0 (fun _ => none) a0 (fun j => by simp) (fun j hj => by omega) (fun _ _ => rfl) (fun j hj => hr j (by simpa using hj)) (Fr.start _ _)
    have hq : q' = r := funext fun j => by
      by_cases hj : j < l.length
      · exact g1 j (by simpa using hj)
      · rw [g2 j (by simp; omega), hn j (by omega)]
    rw [hq] at g3
    have := hend r w hg hw hr
    rw [List.range_eq_range'] at this
    rw [hf.unique g3]
    exact this

/-- THE RULE, an obligation for each operation. -/
theorem wpIn_region_each {id : Nat} {l : List Oper} {a0 : Act} {w : World} (G : Nat → Value → Prop) (W : (Nat → Option Value) → World → Prop)
    (hm : P.follows .mixedOrders = true) (hb : backB .any l.toArray = true) (hap : apartB l.toArray = true)
    (h0 : W (fun _ => none) w.drew)
    (hstep : EachOp (fun i o => ∀ r a w, Fr l.toArray a0 r a → (∀ j v, r j = some v → G j v) → W r w → r i = none → (∀ e ∈ o.after, Region.binds .any e = true → r e.on ≠ none) →
      ∀ K : Act → World → Prop, (∀ v w', G i v → W (upd r i v) w' → K (a.put o.dst v) w') → wpOpIn F n P l.toArray Q i K a w) 0 l)
    (hend : ∀ r w, (∀ j v, r j = some v → G j v) → W r w → (∀ i, i < l.length → r i ≠ none) → Q .normal (putAll l ((List.range l.length).map fun i => (r i).getD undef) a0) w) :
    (Code.region id l.toArray true).wpIn F n P Q a0 w :=
  wpIn_region_vals G W hm hb hap h0 (fun r a w hf hg hW i o ho hr hd K hK => by
    have := EachOp.at_ l 0 hstep i o ho
    rw [Nat.zero_add] at this
    exact this r a w hf hg hW hr hd K hK) hend

end
section
variable {P : Program} {Q : Exit → Act → World → Prop} {l : List Oper} {i j : Nat} {o x : Oper} {t : Tmp} {want b : Bool} {a : Act} {w : World} {K : Act → World → Prop} {n lp : Nat}
theorem wpOpR_of (ho : l[i]? = some o) (hg : o.guard = none) (h : o.wp P a w K Q) (hd : isDefer o.op = false := by rfl) : wpOpIn (Fence.wide.inRound lp) n P l.toArray Q i K a w := by
  unfold wpOpIn
  have h2 : l.toArray[i]? = some o := by simpa using ho
  rw [h2]
  simp only [Region.wanted, hg, if_true]
  exact wpIn_of_wp (not_defer hd) h
theorem wpOpR_run (ho : l[i]? = some o) (hg : o.guard = some (j, want)) (hj : l[j]? = some x) (hx : x.dst = some t) (hv : a.tmps.getD t undef = .bool want) (h : o.wp P a w K Q) (hd : isDefer o.op = false := by rfl) : wpOpIn (Fence.wide.inRound lp) n P l.toArray Q i K a w := by
  unfold wpOpIn
  have h2 : l.toArray[i]? = some o := by simpa using ho
  rw [h2]
  have h3 : Region.wanted o (yielded l.toArray a.tmps) = true := by
    unfold Region.wanted
    simp only [hg, yielded_of hj hx hv, beq_self_eq_true]
  simp only [h3, if_true]
  exact wpIn_of_wp (not_defer hd) h
theorem wpOpR_skip (ho : l[i]? = some o) (hg : o.guard = some (j, want)) (hj : l[j]? = some x) (hx : x.dst = some t) (hv : a.tmps.getD t undef = .bool b) (hb : b ≠ want) (h : K (a.put o.dst undef) w) : wpOpIn (Fence.wide.inRound lp) n P l.toArray Q i K a w := by
  unfold wpOpIn
  have h2 : l.toArray[i]? = some o := by simpa using ho
  rw [h2]
  have h3 : Region.wanted o (yielded l.toArray a.tmps) = false := by
    unfold Region.wanted
    simp only [hg, yielded_of hj hx hv]
    simpa using hb
  simp only [h3]
  exact ⟨fun _ _ => trivial, h⟩
end
end Go.Kq
