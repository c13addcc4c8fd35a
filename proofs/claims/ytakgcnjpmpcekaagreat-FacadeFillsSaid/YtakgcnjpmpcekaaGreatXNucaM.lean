/- Spans of fractions: bad, two, Add, Sub, Mul: walks. · Spans of fractions: what Add, Sub, Mul give, over whole numbers: plain. · Values that a region draws and holds, and one box that it makes and fills: an invariant for wp_region_each. No program in sight. · Spans of fractions: over: the walk. · Spans of fractions: Check: the walk. -/
import Derived.Test.YtakgcnjpmpcekaaGreatXNtt
import Derived.Test.YtakgcnjpmpcekaaGreatXLibHmM
namespace Go.Proofs.YtakgcnjpmpcekaaGreat
open Go.RowKit Go.Kq

theorem fits_in62 (z : Int) : fits z = in62 z := by
  unfold fits in62 M62
  rw [Bool.eq_iff_iff]
  simp
set_option maxHeartbeats 4000000 in
theorem bad03_any (l : List (Int × Int)) (g n c : Nat) (w : World) (hl : l.length = n) (hn : n ≤ 1000)
    (hc : ∀ (k : Nat) x, l[k]? = some x → w.cell? ⟨g, k * 2, none⟩ = some (.int .i64 x.1) ∧ w.cell? ⟨g, k * 2 + 1, none⟩ = some (.int .i64 x.2)) :
    Calls Tryz.prog 62 #[.slice (some ⟨g, 0, none⟩) n c] w fun e w' => e = .returned (.int .i64 (ckE l)) ∧ Kp No w w' := by
  have HC := Lib.hid hc
  clear hc
  have hnI : (n : Int) ≤ 1000 := by omega
  obtain ⟨E, hE⟩ : ∃ E, ckE l = E := ⟨_, rfl⟩
  rw [hE]
  have HE := Lib.hid hE
  clear hE
  go_enter Tryz.func62, Tryz.ntmps62
  go_wp2_with fail
  go_loop [3] (fun i => ∃ k : Nat, k ≤ n ∧ i = .int .i64 k ∧ (∀ x ∈ l.take k, fits x.1 = true ∧ fits x.2 = true)) (fun i => n - (intOf i).toNat)
  case atStart => exact ⟨0, by omega, rfl, by simp⟩
  case round =>
    obtain ⟨k, hk, rfl, hall⟩ := hrel
    by_cases hkn : k < n
    · obtain ⟨x, hx⟩ : ∃ x, l[k]? = some x := ⟨l[k], List.getElem?_eq_getElem (by omega)⟩
      have c0 := (HC.out k x hx).1
      have c1 := (HC.out k x hx).2
      have hkI : (k : Int) < n := by omega
      have hw1 : IntKind.i64.wrap ((k : Int) + 1) = (k : Int) + 1 := by rw [IntKind.wrap_i64]; omega
      have HA := Lib.hid hall
      have HX := Lib.hid hx
      clear hall hx
      have BAD : ¬ (fits x.1 = true ∧ fits x.2 = true) → E = 7 := fun h => by
        rw [← HE.out]
        unfold ckE
        rw [if_neg]
        intro h2
        exact h (h2 x (mem_take HX.out))
      replace BAD := Lib.hid BAD
      by_cases a1 : x.1 < -4611686018427387904
      · obtain rfl := BAD.out (fun h => by have := fits_bounds h.1; omega)
        go_wp2_with fail
        go_ret
        exact ⟨rfl, Kp.refl _ _⟩
      · by_cases a2 : 4611686018427387904 < x.1
        · obtain rfl := BAD.out (fun h => by have := fits_bounds h.1; omega)
          go_wp2_with fail
          go_ret
          exact ⟨rfl, Kp.refl _ _⟩
        · by_cases a3 : x.2 < -4611686018427387904
          · obtain rfl := BAD.out (fun h => by have := fits_bounds h.2; omega)
            go_wp2_with fail
            go_ret
            exact ⟨rfl, Kp.refl _ _⟩
          · by_cases a4 : 4611686018427387904 < x.2
            · obtain rfl := BAD.out (fun h => by have := fits_bounds h.2; omega)
              go_wp2_with fail
              go_ret
              exact ⟨rfl, Kp.refl _ _⟩
            · have HN := Lib.hid (all_take HA.out HX.out (by rw [fits_in62, fits_in62]; unfold in62; constructor <;> (rw [decide_eq_true_eq]; omega)))
              go_wp2_with fail
              go_round
              case rel => exact ⟨k + 1, by omega, by go_num, HN.out⟩
              case measure => simp [intOf] <;> omega
    · obtain rfl : k = n := by omega
      have hkk : ¬ ((k : Int) < (k : Int)) := by omega
      have HF := Lib.hid (show ∀ x ∈ l, fits x.1 = true ∧ fits x.2 = true by rwa [List.take_of_length_le (by omega)] at hall)
      clear hall
      go_wp2_with fail
      go_loopw [4] (fun i wr => ∃ j : Nat, j ≤ k ∧ i = .int .i64 j ∧ (∀ x ∈ l.take j, x.1 ≤ x.2) ∧ Kp No w wr) (fun i _ => k - (intOf i).toNat)
      case atStart => exact ⟨0, by omega, rfl, by simp, Kp.refl _ _⟩
      case round =>
        obtain ⟨j, hj, rfl, hall, hkp⟩ := hrel
        have KP := Lib.hid hkp
        by_cases hjn : j < k
        · obtain ⟨x, hx⟩ : ∃ x, l[j]? = some x := ⟨l[j], List.getElem?_eq_getElem (by omega)⟩
          have c0 := hkp.cell (HC.out j x hx).1 id
          have c1 := hkp.cell (HC.out j x hx).2 id
          have hkI : (j : Int) < k := by omega
          have hj0 : (0 : Int) ≤ (j : Int) := by omega
          have hw1 : IntKind.i64.wrap ((j : Int) + 1) = (j : Int) + 1 := by rw [IntKind.wrap_i64]; omega
          have HA := Lib.hid hall
          have HX := Lib.hid hx
          clear hall hx hkp
          by_cases a1 : x.2 < x.1
          · obtain rfl : E = 2 := by
              rw [← HE.out]
              unfold ckE
              rw [if_pos HF.out, if_neg]
              intro h2
              have := h2 x (mem_take HX.out)
              omega
            go_wp2_with fail
            go_quiet (fail)
            have KN := Lib.hid (KP.out.tr (Kp.drewN No wr nq))
            go_wp2_with fail
            go_ret
            exact ⟨rfl, KN.out⟩
          · have HN := Lib.hid (all_take (p := fun x : Int × Int => x.1 ≤ x.2) HA.out HX.out (by omega))
            go_wp2_with fail
            go_quiet (fail)
            have KN := Lib.hid (KP.out.tr (Kp.drewN No wr nq))
            go_wp2_with fail
            go_round
            case rel => exact ⟨j + 1, by omega, by go_num, HN.out, KN.out⟩
            case measure => simp [intOf] <;> omega
        · obtain rfl : j = k := by omega
          obtain rfl : E = 0 := by
            rw [← HE.out]
            unfold ckE
            rw [if_pos HF.out, if_pos]
            rwa [List.take_of_length_le (by omega)] at hall
          clear hall hkp
          go_wp2_with fail
          go_ret
          exact ⟨rfl, KP.out⟩
end Go.Proofs.YtakgcnjpmpcekaaGreat

namespace Go.Proofs.YtakgcnjpmpcekaaGreat
open Go.RowKit Go.Kq

theorem lowQ_spec : ∀ (l : List Rat) (x : Rat), lowQ x l ≤ x ∧ (∀ y ∈ l, lowQ x l ≤ y) ∧ (lowQ x l = x ∨ lowQ x l ∈ l)
  | [], x => ⟨Rat.le_refl, fun y hy => by simp at hy, .inl rfl⟩
  | y :: l, x => by
    have e : lowQ x (y :: l) = lowQ (if y < x then y else x) l := rfl
    obtain ⟨h1, h2, h3⟩ := lowQ_spec l (if y < x then y else x)
    rw [e]
    by_cases h : y < x
    · rw [if_pos h] at h1 h2 h3 ⊢
      refine ⟨Rat.le_trans h1 (Rat.le_of_lt h), fun z hz => ?_, ?_⟩
      · rcases List.mem_cons.1 hz with rfl | hz
        · exact h1
        · exact h2 z hz
      · rcases h3 with h3 | h3
        · exact .inr (by rw [h3]; simp)
        · exact .inr (List.mem_cons_of_mem _ h3)
    · rw [if_neg h] at h1 h2 h3 ⊢
      refine ⟨h1, fun z hz => ?_, ?_⟩
      · rcases List.mem_cons.1 hz with rfl | hz
        · exact Rat.le_trans h1 (Rat.not_lt.1 h)
        · exact h2 z hz
      · rcases h3 with h3 | h3
        · exact .inl h3
        · exact .inr (List.mem_cons_of_mem _ h3)
theorem highQ_spec : ∀ (l : List Rat) (x : Rat), x ≤ highQ x l ∧ (∀ y ∈ l, y ≤ highQ x l) ∧ (highQ x l = x ∨ highQ x l ∈ l)
  | [], x => ⟨Rat.le_refl, fun y hy => by simp at hy, .inl rfl⟩
  | y :: l, x => by
    have e : highQ x (y :: l) = highQ (if x < y then y else x) l := rfl
    obtain ⟨h1, h2, h3⟩ := highQ_spec l (if x < y then y else x)
    rw [e]
    by_cases h : x < y
    · rw [if_pos h] at h1 h2 h3 ⊢
      refine ⟨Rat.le_trans (Rat.le_of_lt h) h1, fun z hz => ?_, ?_⟩
      · rcases List.mem_cons.1 hz with rfl | hz
        · exact h1
        · exact h2 z hz
      · rcases h3 with h3 | h3
        · exact .inr (by rw [h3]; simp)
        · exact .inr (List.mem_cons_of_mem _ h3)
    · rw [if_neg h] at h1 h2 h3 ⊢
      refine ⟨h1, fun z hz => ?_, ?_⟩
      · rcases List.mem_cons.1 hz with rfl | hz
        · exact Rat.le_trans (Rat.not_lt.1 h) h1
        · exact h2 z hz
      · rcases h3 with h3 | h3
        · exact .inl h3
        · exact .inr (List.mem_cons_of_mem _ h3)
/-- The span of a list whose least and greatest numbers are known. -/
theorem spanL_of {L : List Rat} {lo hi : Rat} (hlo : lo ∈ L) (h1 : ∀ y ∈ L, lo ≤ y) (hhi : hi ∈ L) (h2 : ∀ y ∈ L, y ≤ hi) : spanL L = spanE lo.floor hi.ceil := by
  match L, hlo with
  | x :: l, hlo =>
    have e1 : lowQ x (x :: l) = lo := by
      obtain ⟨a1, a2, a3⟩ := lowQ_spec (x :: l) x
      have hm : lowQ x (x :: l) ∈ x :: l := by
        rcases a3 with a3 | a3
        · rw [a3]; simp
        · exact a3
      exact Rat.le_antisymm (a2 lo hlo) (h1 _ hm)
    have e2 : highQ x (x :: l) = hi := by
      obtain ⟨a1, a2, a3⟩ := highQ_spec (x :: l) x
      have hm : highQ x (x :: l) ∈ x :: l := by
        rcases a3 with a3 | a3
        · rw [a3]; simp
        · exact a3
      exact Rat.le_antisymm (h2 _ hm) (a2 hi hhi)
    show spanE (lowQ x (x :: l)).floor (highQ x (x :: l)).ceil = _
    rw [e1, e2]
theorem QAtK.le {K K' : Nat} {w : World} {b : Nat} {qs : List Rat} (h : QAtK K w b qs) (hK : K ≤ K') : QAtK K' w b qs := fun i q hq => by
  obtain ⟨n, d, h1, h2, h3, h4⟩ := h i q hq
  exact ⟨n, d, h1, h2, h3, h4.le hK⟩
end Go.Proofs.YtakgcnjpmpcekaaGreat

namespace Go.Kq
open Go.RowKit

/-- Operation ai makes a box, operation st stores into it what operation src gave. -/
structure HvA (base : World) (t : TypeId) (zero : Array Value) (ai st src : Nat) (F : Nat → World → Value → Prop) (r : Nat → Option Value) (w : World) : Prop where
  kp : Kp No base w
  b0 : r st = none → ∀ u, r ai = some u → ∃ g, u = .pointer (some ⟨g, 0, none⟩) ∧ base.heap.size ≤ g ∧ w.heap[g]? = some (.cells zero t (0, 0))
  b1 : r st ≠ none → ∃ g cs, r ai = some (.pointer (some ⟨g, 0, none⟩)) ∧ base.heap.size ≤ g ∧ r src = some (.agg cs) ∧ w.heap[g]? = some (.cells cs t (0, 0))
  hv : ∀ i u, r i = some u → F i w u
section
variable {base w w' : World} {t : TypeId} {zero : Array Value} {ai st src : Nat} {F : Nat → World → Value → Prop} {r : Nat → Option Value}
theorem HvA.start (base : World) (t : TypeId) (zero : Array Value) (ai st src : Nat) (F : Nat → World → Value → Prop) : HvA base t zero ai st src F (fun _ => none) base.drew :=
  ⟨Kp.drew _ _, fun _ _ h => (by cases h), fun h => absurd rfl h, fun _ _ h => (by cases h)⟩
theorem hv_upd {F : Nat → World → Value → Prop} {r : Nat → Option Value} {w : World} (h : ∀ i u, r i = some u → F i w u) (i : Nat) (v : Value) (hf : F i w v) : ∀ j u, Kq.upd r i v j = some u → F j w u := fun j u hu => by
  by_cases e : j = i
  · subst e
    rw [upd_same] at hu
    cases hu
    exact hf
  · rw [upd_ne _ _ e] at hu
    exact h j u hu
theorem HvA.upd (h : HvA base t zero ai st src F r w) (i : Nat) (v : Value) (hr : r i = none) (hi : i ≠ st) (ha : i ≠ ai) (hf : F i w v) : HvA base t zero ai st src F (Kq.upd r i v) w := by
  have e1 : Kq.upd r i v st = r st := upd_ne _ _ (fun e => hi e.symm)
  have e2 : Kq.upd r i v ai = r ai := upd_ne _ _ (fun e => ha e.symm)
  refine ⟨h.kp, by rw [e1, e2]; exact h.b0, fun hs => ?_, hv_upd h.hv i v hf⟩
  rw [e1] at hs
  obtain ⟨g, cs, h1, h2, h3, h4⟩ := h.b1 hs
  exact ⟨g, cs, by rw [e2]; exact h1, h2, by rw [upd_ne _ _ (fun e => by rw [e, hr] at h3; cases h3)]; exact h3, h4⟩
theorem HvA.call (h : HvA base t zero ai st src F r w) (hF : Stab F) (k : Kp No w w') : HvA base t zero ai st src F r w' :=
  ⟨h.kp.tr k, fun hs u hu => by
    obtain ⟨g, h1, h2, h3⟩ := h.b0 hs u hu
    exact ⟨g, h1, h2, k.heap h3 id⟩, fun hs => by
    obtain ⟨g, cs, h1, h2, h3, h4⟩ := h.b1 hs
    exact ⟨g, cs, h1, h2, h3, k.heap h4 id⟩, fun i u hu => hF i u w w' k (h.hv i u hu)⟩
theorem HvA.alloc (h : HvA base t zero ai st src F r w) (hF : Stab F) (hr : r ai = none) (hne : ai ≠ st) (hf : F ai (w.alloc (.cells zero t)) (.pointer (some ⟨w.heap.size, 0, none⟩))) : HvA base t zero ai st src F (Kq.upd r ai (.pointer (some ⟨w.heap.size, 0, none⟩))) (w.alloc (.cells zero t)) := by
  have e1 : Kq.upd r ai (.pointer (some ⟨w.heap.size, 0, none⟩)) st = r st := upd_ne _ _ (fun e => hne e.symm)
  refine ⟨h.kp.tr (Kp.alloc _ _ _), fun hs u hu => ?_, fun hs => ?_, hv_upd (fun i u hu => hF i u _ _ (Kp.alloc No w _) (h.hv i u hu)) _ _ hf⟩
  · rw [upd_same] at hu
    cases hu
    exact ⟨_, rfl, h.kp.size, heap_alloc_new w _⟩
  · rw [e1] at hs
    obtain ⟨g, cs, h1, _⟩ := h.b1 hs
    rw [hr] at h1
    cases h1
theorem HvA.store (h : HvA base t zero ai st src F r w) {g : Nat} {cs : Array Value} (ha : r ai = some (.pointer (some ⟨g, 0, none⟩))) (hg : base.heap.size ≤ g) (hF : ∀ i u, F i w u → F i w' u) (hne : src ≠ st) (hne2 : ai ≠ st) (hu : r src = some (.agg cs)) (hk : Kp (One g) w w') (hh : w'.heap[g]? = some (.cells cs t (0, 0))) (v : Value) (hf : F st w' v) :
    HvA base t zero ai st src F (Kq.upd r st v) w' :=
  ⟨h.kp.trans hk (fun k hk e => by unfold One at e; omega), fun hs => (by rw [upd_same] at hs; cases hs), fun _ => ⟨g, cs, by rw [upd_ne _ _ hne2]; exact ha, hg, by rw [upd_ne _ _ hne]; exact hu, hh⟩, hv_upd (fun i u hu => hF i u (h.hv i u hu)) _ _ hf⟩
end
end Go.Kq

namespace Go.Proofs.YtakgcnjpmpcekaaGreat
open Go.RowKit Go.Kq

theorem IsNat.apart {w : World} {v : Value} {N k g : Nat} {x : Bool} {A B : Option Addr} {a b c d : Nat} {t : TypeId} (h : IsNat w v N k) (hz : w.heap[g]? = some (.cells #[.bool x, .slice A a b, .slice B c d] t (0, 0))) : ∀ b, NatBlk v b → b ≠ g := by
  rintro b' ⟨o, n, cc, rfl, hn⟩ rfl
  obtain ⟨A', n', c', l, e, h2, _⟩ := h
  injection e with e1 e2 e3
  subst e1 e2
  have hl := h2.len
  obtain ⟨y, hy⟩ : ∃ y, l[0]? = some y := ⟨_, List.getElem?_eq_getElem (by omega)⟩
  obtain ⟨b2, o2, hA, _, hc⟩ := h2.at_ 0 y hy
  injection hA with hA
  injection hA with hA1 hA2
  subst hA1 hA2
  rw [Nat.add_zero, cell_of_row _ _ _ _ _ _ hz] at hc
  match o, hc with
  | 0, hc => simp at hc
  | 1, hc => simp at hc
  | 2, hc => simp at hc
  | o + 3, hc => simp at hc
theorem IsNat.kpZ {w w' : World} {v : Value} {N k g : Nat} {x : Bool} {A B : Option Addr} {a b c d : Nat} {t : TypeId} (h : IsNat w v N k) (hk : Kp (Kq.One g) w w') (hz : w.heap[g]? = some (.cells #[.bool x, .slice A a b, .slice B c d] t (0, 0))) : IsNat w' v N k :=
  h.kpB hk fun b' hb e => h.apart hz b' hb e
theorem IsQuo.kpZ {w w' : World} {v : Value} {q : Rat} {k g : Nat} {x : Bool} {A B : Option Addr} {a b c d : Nat} {t : TypeId} (h : IsQuo w v q k) (hk : Kp (Kq.One g) w w') (hz : w.heap[g]? = some (.cells #[.bool x, .slice A a b, .slice B c d] t (0, 0))) : IsQuo w' v q k := by
  obtain ⟨n, d, h1, h2, h3⟩ := h
  exact ⟨n, d, h1, h2.kpZ hk hz, h3.kpZ hk hz⟩
theorem IsNew.kpZ {w w' : World} {v : Value} {N k g G : Nat} {x : Bool} {A B : Option Addr} {a b c d : Nat} {t : TypeId} (h : IsNew G w v N k) (hk : Kp (Kq.One g) w w') (hz : w.heap[g]? = some (.cells #[.bool x, .slice A a b, .slice B c d] t (0, 0))) : IsNew G w' v N k :=
  ⟨h.1.kpZ hk hz, h.2⟩
theorem QuoNew.kpZ {w w' : World} {v : Value} {q : Rat} {k g G : Nat} {x : Bool} {A B : Option Addr} {a b c d : Nat} {t : TypeId} (h : QuoNew G w v q k) (hk : Kp (Kq.One g) w w') (hz : w.heap[g]? = some (.cells #[.bool x, .slice A a b, .slice B c d] t (0, 0))) : QuoNew G w' v q k := by
  obtain ⟨n, d, h1, h2, h3⟩ := h
  exact ⟨n, d, h1, h2.kpZ hk hz, h3.kpZ hk hz⟩
theorem TupQ.kpZ {w w' : World} {v : Value} {q : Rat} {k g G : Nat} {x : Bool} {A B : Option Addr} {a b c d : Nat} {t : TypeId} (h : TupQ G w v q k) (hk : Kp (Kq.One g) w w') (hz : w.heap[g]? = some (.cells #[.bool x, .slice A a b, .slice B c d] t (0, 0))) : TupQ G w' v q k := by
  obtain ⟨z, h1, h2⟩ := h
  exact ⟨z, h1, h2.kpZ hk hz⟩
theorem TupQ.kp {w w' : World} {v : Value} {q : Rat} {k g B : Nat} (h : TupQ g w v q k) (hk : Kp (Kq.One B) w w') (hB : B < g) : TupQ g w' v q k := by
  obtain ⟨z, h1, h2⟩ := h
  exact ⟨z, h1, h2.kp hk hB⟩
def TupI (w : World) (u : Value) (q : Rat) (k : Nat) : Prop := ∃ z, u = .tuple #[z, .int .i64 0] ∧ IsQuo w z q k
theorem TupI.no {w w' : World} {v : Value} {q : Rat} {k : Nat} (h : TupI w v q k) (hk : Kp No w w') : TupI w' v q k := by
  obtain ⟨z, h1, h2⟩ := h
  exact ⟨z, h1, h2.no hk⟩
theorem TupI.kpZ {w w' : World} {v : Value} {q : Rat} {k g : Nat} {x : Bool} {A B : Option Addr} {a b c d : Nat} {t : TypeId} (h : TupI w v q k) (hk : Kp (Kq.One g) w w') (hz : w.heap[g]? = some (.cells #[.bool x, .slice A a b, .slice B c d] t (0, 0))) : TupI w' v q k := by
  obtain ⟨z, h1, h2⟩ := h
  exact ⟨z, h1, h2.kpZ hk hz⟩
set_option maxHeartbeats 1000000 in
set_option maxRecDepth 100000 in
theorem over_is (num den : Int) (w : World) (hn : -9223372036854775808 < num ∧ num < 9223372036854775808) (hd : -9223372036854775808 < den ∧ den < 9223372036854775808) (h0 : den ≠ 0) :
    Calls Tryz.prog 44 #[.int .i64 num, .int .i64 den] w fun e w' => ∃ z, e = .returned z ∧ QuoNew w.heap.size w' z ((num : Rat) / (den : Rat)) 5 ∧ Kp No w w' := by
  have Q1 := Lib.hid (fun w0 => quo_is num w0 hn)
  have Q2 := Lib.hid (fun w0 => quo_is den w0 hd)
  have hne : (den : Rat) ≠ 0 := fun h => h0 (by have := congrArg Rat.num h; simpa using this)
  have QD := Lib.hid (fun (w0 : World) (u v : Value) hu hv => qdiv_is u v (num : Rat) (den : Rat) 2 2 w0 hu hv (by omega) hne)
  generalize (num : Rat) / (den : Rat) = qq at *
  have KA := Lib.hid (Kp.alloc No w (.cells #[.bool false, .slice none 0 0, .slice none 0 0] 89))
  have RB := Lib.hid (at_newQ w (.cells #[.bool false, .slice none 0 0, .slice none 0 0] 89))
  clear hn hd h0 hne
  go_enter Tryz.func44, Tryz.ntmps44
  go_wp2_with fail
  generalize w.alloc (.cells #[.bool false, .slice none 0 0, .slice none 0 0] 89) = w1 at *
  refine (Q1.out _).mono ?_
  rintro _ w2 ⟨u, rfl, hu, k2⟩
  have HU := Lib.hid hu.is
  have K2 := Lib.hid (KA.out.tr k2)
  have R2 := Lib.hid (k2.heap RB.out id)
  clear hu k2 Q1
  go_wp2_with fail
  refine (Q2.out _).mono ?_
  rintro _ w3 ⟨v, rfl, hv, k3⟩
  have HV := Lib.hid hv.is
  have HU3 := Lib.hid (HU.out.no k3)
  have K3 := Lib.hid (K2.out.tr k3)
  have R3 := Lib.hid (k3.heap R2.out id)
  clear hv k3 Q2 HU R2
  go_wp2_with fail
  refine (QD.out _ _ _ HU3.out HV.out).mono ?_
  rintro _ w4 ⟨z, rfl, hz, k4⟩
  have hs3 : w.heap.size < w3.heap.size := (Array.getElem?_eq_some_iff.1 R3.out).1
  have K4 := Lib.hid (K3.out.tr k4)
  have R4 := Lib.hid (k4.heap R3.out id)
  obtain ⟨n, d, rfl, hn, hd⟩ := hz
  obtain ⟨A1, m1, c1, _, rfl, _⟩ := hn.1.pos
  obtain ⟨A2, m2, c2, _, rfl, _⟩ := hd.1.pos
  have HN := Lib.hid hn
  have HD := Lib.hid hd
  obtain ⟨x0, x1, x2, y0, y1, y2⟩ := three_cells R4.out
  have hs4 : w.heap.size < w4.heap.size := Nat.lt_of_lt_of_le hs3 k4.size
  clear hn hd k4 QD
  go_wp2_with fail
  have hs := setQ_at R4.out (.bool (negQ qq)) (.slice A1 m1 c1) (.slice A2 m2 c2)
  have hk := kp_setQ w4 w.heap.size (.bool (negQ qq)) (.slice A1 m1 c1) (.slice A2 m2 c2)
  generalize ((w4.setCell { block := w.heap.size, off := 0 } (Value.bool (negQ qq))).setCell { block := w.heap.size, off := 1 } (Value.slice A1 m1 c1)).setCell { block := w.heap.size, off := 2 } (Value.slice A2 m2 c2) = w5 at *
  have hk0 := Kp.alloc No w5 (.cells #[.bool (negQ qq), .slice A1 m1 c1, .slice A2 m2 c2] 89)
  obtain ⟨z0, z1, z2, _⟩ := three_cells (hk0.heap hs id)
  exact bodyPost_ret (v := .agg #[.bool (negQ qq), .slice A1 m1 c1, .slice A2 m2 c2]) (by simp [results, Tryz.results44, go_sem, z0, z1, z2]) rfl ⟨_, rfl, ⟨_, _, rfl, ((HN.out.kp hk hs3).no hk0).mono (Nat.le_of_lt hs3), ((HD.out.kp hk hs3).no hk0).mono (Nat.le_of_lt hs3)⟩, (K4.out.trans hk (fun k hk e => by unfold Kq.One at e; omega)).tr hk0⟩
end Go.Proofs.YtakgcnjpmpcekaaGreat

namespace Go.Proofs.YtakgcnjpmpcekaaGreat
open Go.RowKit Go.Kq

set_option maxHeartbeats 1000000 in
theorem check03_is (x : Int × Int) (w : World) : Calls Tryz.prog 43 #[ivV x.1 x.2] w fun e w' => e = .returned (.int .i64 (ckE [x])) ∧ Kp No w w' := by
  have BD := Lib.hid (fun (g : Nat) (w0 : World) (hh : w0.heap[g]? = some (.cells #[.int .i64 x.1, .int .i64 x.2] 53 (0, 0))) => bad03_any [x] g 1 1 w0 rfl (by omega) (fun k y hy => by
    match k, hy with
    | 0, hy => simp at hy; subst hy; exact ⟨by rw [cell_of_row _ _ _ _ _ _ hh]; rfl, by rw [cell_of_row _ _ _ _ _ _ hh]; rfl⟩
    | k + 1, hy => simp at hy))
  generalize ckE [x] = E at *
  obtain ⟨x1, x2⟩ := x
  simp only [ivV] at BD ⊢
  obtain ⟨h1, h2, KA⟩ := two_newQ w (.cells #[.int .i64 x1, .int .i64 x2] 53) (.cells #[.int .i64 x1, .int .i64 x2] 53)
  replace h2 := Lib.hid h2
  replace KA := Lib.hid KA
  clear h1
  go_enter Tryz.func43, Tryz.ntmps43
  go_wp2_with fail
  refine (BD.out _ _ h2.out).mono ?_
  rintro _ wb ⟨rfl, kb⟩
  have KB := Lib.hid (KA.out.tr kb)
  clear kb
  go_wp2_with fail
  go_ret
  exact ⟨rfl, KB.out⟩
theorem qatk_two {w : World} {g K : Nat} {t : TypeId} {n1 d1 n2 d2 : Value} {a b : Rat} {s1 s2 : Bool} (hh : w.heap[g]? = some (.cells #[.bool s1, n1, d1, .bool s2, n2, d2] t (0, 0))) (h1 : negQ a = s1) (h2 : negQ b = s2) (ha : IsQuo w (.agg #[.bool s1, n1, d1]) a K) (hb : IsQuo w (.agg #[.bool s2, n2, d2]) b K) : QAtK K w g [a, b] := by
  subst h1 h2
  intro i q hq
  match i, hq with
  | 0, hq => simp at hq; subst hq; exact ⟨n1, d1, by rw [cell_of_row _ _ _ _ _ _ hh]; rfl, by rw [cell_of_row _ _ _ _ _ _ hh]; rfl, by rw [cell_of_row _ _ _ _ _ _ hh]; rfl, ha⟩
  | 1, hq => simp at hq; subst hq; exact ⟨n2, d2, by rw [cell_of_row _ _ _ _ _ _ hh]; rfl, by rw [cell_of_row _ _ _ _ _ _ hh]; rfl, by rw [cell_of_row _ _ _ _ _ _ hh]; rfl, hb⟩
  | i + 2, hq => simp at hq
end Go.Proofs.YtakgcnjpmpcekaaGreat
