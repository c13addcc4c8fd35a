/- Values that a region draws and holds, and one box that it makes and fills: an invariant for wp_region_each. No program in sight. · Spans of fractions: over: the walk. · Great numbers by limbs: power with exponent 2: the walk (printed by gen_nty.py). · Fractions: QPow with exponent 2: the walk. · A region that draws its order, calls what writes nothing, and stores one cell: an invariant for wp_region_each. No program in sight. -/
import Derived.Test.YtlieijnhaolnhaaGreatXLibBoxM
import Derived.Test.YtlieijnhaolnhaaGreatXNtwM
namespace Go.Kq
open Go.RowKit

/-- Operation ai makes a box, operation st stores into it what operation src gave. -/
structure HvA (base : World) (t : TypeId) (zero : Array Value) (ai st src : Nat) (F : Nat → World → Value → Prop) (r : Nat → Option Value) (w : World) : Prop where
  kp : Kp No base w
  b0 : r st = none → ∀ u, r ai = some u → ∃ g, u = .pointer (some ⟨g, 0, none⟩) ∧ base.heap.size ≤ g ∧ w.heap[g]? = some (.cells zero t (0, 0))
  b1 : r st ≠ none → ∃ g cs, r ai = some (.pointer (some ⟨g, 0, none⟩)) ∧ base.heap.size ≤ g ∧ r src = some (.agg cs) ∧ w.heap[g]? = some (.cells cs t (0, 0))
  hv : ∀ i u, r i = some u → F i w u
section
variable {base w w' : World} {t : TypeId} {zero : Array Value} {ai st src : Nat} {F : Nat → World → Value → Prop} {r : Nat → Option Value}
theorem HvA.start (base : World) (t : TypeId) (zero : Array Value) (ai st src : Nat) (F : Nat → World → Value → Prop) : HvA base t zero ai st src F (fun _ => none) base.drew :=
  ⟨Kp.drew _ _, fun _ _ h => (by cases h), fun h => absurd rfl h, fun _ _ h => (by cases h)⟩
theorem hv_upd {F : Nat → World → Value → Prop} {r : Nat → Option Value} {w : World} (h : ∀ i u, r i = some u → F i w u) (i : Nat) (v : Value) (hf : F i w v) : ∀ j u, Kq.upd r i v j = some u → F j w u := fun j u hu => by
  by_cases e : j = i
  · subst e
    rw [upd_same] at hu
    cases hu
    exact hf
  · rw [upd_ne _ _ e] at hu
    exact h j u hu
theorem HvA.upd (h : HvA base t zero ai st src F r w) (i : Nat) (v : Value) (hr : r i = none) (hi : i ≠ st) (ha : i ≠ ai) (hf : F i w v) : HvA base t zero ai st src F (Kq.upd r i v) w := by
  have e1 : Kq.upd r i v st = r st := upd_ne _ _ (fun e => hi e.symm)
  have e2 : Kq.upd r i v ai = r ai := upd_ne _ _ (fun e => ha e.symm)
  refine ⟨h.kp, by rw [e1, e2]; exact h.b0, fun hs => ?_, hv_upd h.hv i v hf⟩
  rw [e1] at hs
  obtain ⟨g, cs, h1, h2, h3, h4⟩ := h.b1 hs
  exact ⟨g, cs, by rw [e2]; exact h1, h2, by rw [upd_ne _ _ (fun e => by rw [e, hr] at h3; cases h3)]; exact h3, h4⟩
theorem HvA.call (h : HvA base t zero ai st src F r w) (hF : Stab F) (k : Kp No w w') : HvA base t zero ai st src F r w' :=
  ⟨h.kp.tr k, fun hs u hu => by
    obtain ⟨g, h1, h2, h3⟩ := h.b0 hs u hu
    exact ⟨g, h1, h2, k.heap h3 id⟩, fun hs => by
    obtain ⟨g, cs, h1, h2, h3, h4⟩ := h.b1 hs
    exact ⟨g, cs, h1, h2, h3, k.heap h4 id⟩, fun i u hu => hF i u w w' k (h.hv i u hu)⟩
theorem HvA.alloc (h : HvA base t zero ai st src F r w) (hF : Stab F) (hr : r ai = none) (hne : ai ≠ st) (hf : F ai (w.alloc (.cells zero t)) (.pointer (some ⟨w.heap.size, 0, none⟩))) : HvA base t zero ai st src F (Kq.upd r ai (.pointer (some ⟨w.heap.size, 0, none⟩))) (w.alloc (.cells zero t)) := by
  have e1 : Kq.upd r ai (.pointer (some ⟨w.heap.size, 0, none⟩)) st = r st := upd_ne _ _ (fun e => hne e.symm)
  refine ⟨h.kp.tr (Kp.alloc _ _ _), fun hs u hu => ?_, fun hs => ?_, hv_upd (fun i u hu => hF i u _ _ (Kp.alloc No w _) (h.hv i u hu)) _ _ hf⟩
  · rw [upd_same] at hu
    cases hu
    exact ⟨_, rfl, h.kp.size, heap_alloc_new w _⟩
  · rw [e1] at hs
    obtain ⟨g, cs, h1, _⟩ := h.b1 hs
    rw [hr] at h1
    cases h1
theorem HvA.store (h : HvA base t zero ai st src F r w) {g : Nat} {cs : Array Value} (ha : r ai = some (.pointer (some ⟨g, 0, none⟩))) (hg : base.heap.size ≤ g) (hF : ∀ i u, F i w u → F i w' u) (hne : src ≠ st) (hne2 : ai ≠ st) (hu : r src = some (.agg cs)) (hk : Kp (One g) w w') (hh : w'.heap[g]? = some (.cells cs t (0, 0))) (v : Value) (hf : F st w' v) :
    HvA base t zero ai st src F (Kq.upd r st v) w' :=
  ⟨h.kp.trans hk (fun k hk e => by unfold One at e; omega), fun hs => (by rw [upd_same] at hs; cases hs), fun _ => ⟨g, cs, by rw [upd_ne _ _ hne2]; exact ha, hg, by rw [upd_ne _ _ hne]; exact hu, hh⟩, hv_upd (fun i u hu => hF i u (h.hv i u hu)) _ _ hf⟩
end
end Go.Kq

namespace Go.Proofs.YtlieijnhaolnhaaGreat
open Go.RowKit Go.Kq

theorem IsNat.apart {w : World} {v : Value} {N k g : Nat} {x : Bool} {A B : Option Addr} {a b c d : Nat} {t : TypeId} (h : IsNat w v N k) (hz : w.heap[g]? = some (.cells #[.bool x, .slice A a b, .slice B c d] t (0, 0))) : ∀ b, NatBlk v b → b ≠ g := by
  rintro b' ⟨o, n, cc, rfl, hn⟩ rfl
  obtain ⟨A', n', c', l, e, h2, _⟩ := h
  injection e with e1 e2 e3
  subst e1 e2
  have hl := h2.len
  obtain ⟨y, hy⟩ : ∃ y, l[0]? = some y := ⟨_, List.getElem?_eq_getElem (by omega)⟩
  obtain ⟨b2, o2, hA, _, hc⟩ := h2.at_ 0 y hy
  injection hA with hA
  injection hA with hA1 hA2
  subst hA1 hA2
  rw [Nat.add_zero, cell_of_row _ _ _ _ _ _ hz] at hc
  match o, hc with
  | 0, hc => simp at hc
  | 1, hc => simp at hc
  | 2, hc => simp at hc
  | o + 3, hc => simp at hc
theorem IsNat.kpZ {w w' : World} {v : Value} {N k g : Nat} {x : Bool} {A B : Option Addr} {a b c d : Nat} {t : TypeId} (h : IsNat w v N k) (hk : Kp (Kq.One g) w w') (hz : w.heap[g]? = some (.cells #[.bool x, .slice A a b, .slice B c d] t (0, 0))) : IsNat w' v N k :=
  h.kpB hk fun b' hb e => h.apart hz b' hb e
theorem IsQuo.kpZ {w w' : World} {v : Value} {q : Rat} {k g : Nat} {x : Bool} {A B : Option Addr} {a b c d : Nat} {t : TypeId} (h : IsQuo w v q k) (hk : Kp (Kq.One g) w w') (hz : w.heap[g]? = some (.cells #[.bool x, .slice A a b, .slice B c d] t (0, 0))) : IsQuo w' v q k := by
  obtain ⟨n, d, h1, h2, h3⟩ := h
  exact ⟨n, d, h1, h2.kpZ hk hz, h3.kpZ hk hz⟩
theorem IsNew.kpZ {w w' : World} {v : Value} {N k g G : Nat} {x : Bool} {A B : Option Addr} {a b c d : Nat} {t : TypeId} (h : IsNew G w v N k) (hk : Kp (Kq.One g) w w') (hz : w.heap[g]? = some (.cells #[.bool x, .slice A a b, .slice B c d] t (0, 0))) : IsNew G w' v N k :=
  ⟨h.1.kpZ hk hz, h.2⟩
theorem QuoNew.kpZ {w w' : World} {v : Value} {q : Rat} {k g G : Nat} {x : Bool} {A B : Option Addr} {a b c d : Nat} {t : TypeId} (h : QuoNew G w v q k) (hk : Kp (Kq.One g) w w') (hz : w.heap[g]? = some (.cells #[.bool x, .slice A a b, .slice B c d] t (0, 0))) : QuoNew G w' v q k := by
  obtain ⟨n, d, h1, h2, h3⟩ := h
  exact ⟨n, d, h1, h2.kpZ hk hz, h3.kpZ hk hz⟩
theorem TupQ.kpZ {w w' : World} {v : Value} {q : Rat} {k g G : Nat} {x : Bool} {A B : Option Addr} {a b c d : Nat} {t : TypeId} (h : TupQ G w v q k) (hk : Kp (Kq.One g) w w') (hz : w.heap[g]? = some (.cells #[.bool x, .slice A a b, .slice B c d] t (0, 0))) : TupQ G w' v q k := by
  obtain ⟨z, h1, h2⟩ := h
  exact ⟨z, h1, h2.kpZ hk hz⟩
theorem TupQ.kp {w w' : World} {v : Value} {q : Rat} {k g B : Nat} (h : TupQ g w v q k) (hk : Kp (Kq.One B) w w') (hB : B < g) : TupQ g w' v q k := by
  obtain ⟨z, h1, h2⟩ := h
  exact ⟨z, h1, h2.kp hk hB⟩
def TupI (w : World) (u : Value) (q : Rat) (k : Nat) : Prop := ∃ z, u = .tuple #[z, .int .i64 0] ∧ IsQuo w z q k
theorem TupI.no {w w' : World} {v : Value} {q : Rat} {k : Nat} (h : TupI w v q k) (hk : Kp No w w') : TupI w' v q k := by
  obtain ⟨z, h1, h2⟩ := h
  exact ⟨z, h1, h2.no hk⟩
theorem TupI.kpZ {w w' : World} {v : Value} {q : Rat} {k g : Nat} {x : Bool} {A B : Option Addr} {a b c d : Nat} {t : TypeId} (h : TupI w v q k) (hk : Kp (Kq.One g) w w') (hz : w.heap[g]? = some (.cells #[.bool x, .slice A a b, .slice B c d] t (0, 0))) : TupI w' v q k := by
  obtain ⟨z, h1, h2⟩ := h
  exact ⟨z, h1, h2.kpZ hk hz⟩
set_option maxHeartbeats 1000000 in
set_option maxRecDepth 100000 in
theorem over_is (num den : Int) (w : World) (hn : -9223372036854775808 < num ∧ num < 9223372036854775808) (hd : -9223372036854775808 < den ∧ den < 9223372036854775808) (h0 : den ≠ 0) :
    Calls Tryz.prog 69 #[.int .i64 num, .int .i64 den] w fun e w' => ∃ z, e = .returned z ∧ QuoNew w.heap.size w' z ((num : Rat) / (den : Rat)) 5 ∧ Kp No w w' := by
  have Q1 := Lib.hid (fun w0 => quo_is num w0 hn)
  have Q2 := Lib.hid (fun w0 => quo_is den w0 hd)
  have hne : (den : Rat) ≠ 0 := fun h => h0 (by have := congrArg Rat.num h; simpa using this)
  have QD := Lib.hid (fun (w0 : World) (u v : Value) hu hv => qdiv_is u v (num : Rat) (den : Rat) 2 2 w0 hu hv (by omega) hne)
  generalize (num : Rat) / (den : Rat) = qq at *
  have KA := Lib.hid (Kp.alloc No w (.cells #[.bool false, .slice none 0 0, .slice none 0 0] 94))
  have RB := Lib.hid (at_newQ w (.cells #[.bool false, .slice none 0 0, .slice none 0 0] 94))
  clear hn hd h0 hne
  go_enter Tryz.func69, Tryz.ntmps69
  go_wp2_with fail
  generalize w.alloc (.cells #[.bool false, .slice none 0 0, .slice none 0 0] 94) = w1 at *
  refine (Q1.out _).mono ?_
  rintro _ w2 ⟨u, rfl, hu, k2⟩
  have HU := Lib.hid hu.is
  have K2 := Lib.hid (KA.out.tr k2)
  have R2 := Lib.hid (k2.heap RB.out id)
  clear hu k2 Q1
  go_wp2_with fail
  refine (Q2.out _).mono ?_
  rintro _ w3 ⟨v, rfl, hv, k3⟩
  have HV := Lib.hid hv.is
  have HU3 := Lib.hid (HU.out.no k3)
  have K3 := Lib.hid (K2.out.tr k3)
  have R3 := Lib.hid (k3.heap R2.out id)
  clear hv k3 Q2 HU R2
  go_wp2_with fail
  refine (QD.out _ _ _ HU3.out HV.out).mono ?_
  rintro _ w4 ⟨z, rfl, hz, k4⟩
  have hs3 : w.heap.size < w3.heap.size := (Array.getElem?_eq_some_iff.1 R3.out).1
  have K4 := Lib.hid (K3.out.tr k4)
  have R4 := Lib.hid (k4.heap R3.out id)
  obtain ⟨n, d, rfl, hn, hd⟩ := hz
  obtain ⟨A1, m1, c1, _, rfl, _⟩ := hn.1.pos
  obtain ⟨A2, m2, c2, _, rfl, _⟩ := hd.1.pos
  have HN := Lib.hid hn
  have HD := Lib.hid hd
  obtain ⟨x0, x1, x2, y0, y1, y2⟩ := three_cells R4.out
  have hs4 : w.heap.size < w4.heap.size := Nat.lt_of_lt_of_le hs3 k4.size
  clear hn hd k4 QD
  go_wp2_with fail
  have hs := setQ_at R4.out (.bool (negQ qq)) (.slice A1 m1 c1) (.slice A2 m2 c2)
  have hk := kp_setQ w4 w.heap.size (.bool (negQ qq)) (.slice A1 m1 c1) (.slice A2 m2 c2)
  generalize ((w4.setCell { block := w.heap.size, off := 0 } (Value.bool (negQ qq))).setCell { block := w.heap.size, off := 1 } (Value.slice A1 m1 c1)).setCell { block := w.heap.size, off := 2 } (Value.slice A2 m2 c2) = w5 at *
  have hk0 := Kp.alloc No w5 (.cells #[.bool (negQ qq), .slice A1 m1 c1, .slice A2 m2 c2] 94)
  obtain ⟨z0, z1, z2, _⟩ := three_cells (hk0.heap hs id)
  exact bodyPost_ret (v := .agg #[.bool (negQ qq), .slice A1 m1 c1, .slice A2 m2 c2]) (by simp [results, Tryz.results69, go_sem, z0, z1, z2]) rfl ⟨_, rfl, ⟨_, _, rfl, ((HN.out.kp hk hs3).no hk0).mono (Nat.le_of_lt hs3), ((HD.out.kp hk hs3).no hk0).mono (Nat.le_of_lt hs3)⟩, (K4.out.trans hk (fun k hk e => by unfold Kq.One at e; omega)).tr hk0⟩
end Go.Proofs.YtlieijnhaolnhaaGreat

namespace Go.Proofs.YtlieijnhaolnhaaGreat
open Go.RowKit Go.Kq

theorem cmpN_le {a b : Nat} (h : a ≤ b) : cmpN a b ≤ 0 := by
  unfold cmpN
  split <;> (try split) <;> omega
theorem cmpN_gt {a b : Nat} (h : b < a) : 0 < cmpN a b := by
  unfold cmpN
  split <;> (try split) <;> omega
set_option maxHeartbeats 1000000 in
theorem power_two (u : Value) (x k : Nat) (w : World) (hu : IsNat w u x k) (hk : k ≤ 150) :
    Calls Tryz.prog 116 #[u, .int .i64 2] w fun e w' => ∃ z, e = .returned (.tuple #[z, .bool true]) ∧ IsNew w.heap.size w' z (x * x) (2 * k + 4) ∧ Kp No w w' := by
  have OF := Lib.hid (of_any 1 w (by omega))
  have HU := Lib.hid hu
  have TI := Lib.hid (fun (z : Value) (y m : Nat) (w0 : World) (hz : IsNat w0 z y m) (hk0 : Kp No w w0) (hm : m ≤ 400) => times_new z u y x m k (m + k + 1) w0 hz (hu.no hk0) (by omega) (by omega) (by omega))
  have OR := Lib.hid (fun (z : Value) (w0 : World) (hz : IsNat w0 z 1 2) (hk0 : Kp No w w0) => order_is u z x 1 k 2 w0 (hu.no hk0) hz (by omega) (by omega))
  obtain ⟨A, n, c, l, rfl, _⟩ := hu.pos
  clear hu
  go_enter Tryz.func116, Tryz.ntmps116
  go_wp2_with fail
  refine OF.out.mono ?_
  rintro _ w1 ⟨v, rfl, hv, k1⟩
  have HV := Lib.hid hv
  have K1 := Lib.hid k1
  obtain ⟨V0, n0, c0, l0, rfl, _⟩ := hv.1.pos
  clear hv k1 OF
  go_wp2_with fail
  refine (OR.out _ _ HV.out.1 K1.out).mono ?_
  rintro _ w2 ⟨rfl, rfl⟩
  by_cases hx : x ≤ 1
  · have hc := cmpN_le hx
    have HX := Lib.hid (show x ^ 1 = x * x by
      have : x = 0 ∨ x = 1 := by omega
      rcases this with rfl | rfl <;> rfl)
    generalize cmpN x 1 = cc at hc ⊢
    clear hx OR
    go_wp2_with fail
    go_loopw [6, 7] (fun a b wr => ∃ i : Nat, b = .int .i64 (i : Nat) ∧ i ≤ 1 ∧ IsNew w.heap.size wr a (x ^ i) (2 + i * (k + 1)) ∧ Kp No w wr) (fun _ t _ => (1 - intOf t).toNat)
    case atStart => exact ⟨0, rfl, by omega, ⟨by simpa using HV.out.1, HV.out.2⟩, K1.out⟩
    case round =>
      obtain ⟨i, rfl, hi, ha, hkp⟩ := hrel
      have HA := Lib.hid ha
      have KP := Lib.hid hkp
      obtain ⟨A3, n3, c3, l3, rfl, _⟩ := ha.1.pos
      clear ha hkp
      by_cases hlt : i < 1
      · have g1 : (i : Int) < 1 := by omega
        have g2 : IntKind.i64.wrap ((i : Int) + 1) = (i : Int) + 1 := by rw [IntKind.wrap_i64]; omega
        have hm : 2 + i * (k + 1) ≤ 400 := by
          have : i = 0 ∨ i = 1 := by omega
          rcases this with rfl | rfl <;> omega
        have hm2 : 2 + i * (k + 1) + k + 1 ≤ 400 := by
          have : i = 0 ∨ i = 1 := by omega
          rcases this with rfl | rfl <;> omega
        have hsz := KP.out.size
        go_wp2_with fail
        refine (TI.out _ _ _ _ HA.out.1 KP.out hm).mono ?_
        rintro _ w4 ⟨z, rfl, hz, k4⟩
        have HZ := Lib.hid (hz.mono hsz)
        have K4 := Lib.hid k4
        obtain ⟨A5, n5, c5, l5, rfl, _, _, hn5, _⟩ := hz.1.pos
        have g3 : ((n5 : Nat) : Int) ≤ 512 := by omega
        clear hz k4 hn5
        go_wp2_with fail
        go_round
        case rel => exact ⟨i + 1, rfl, hlt, by rw [Nat.pow_succ, show 2 + (i + 1) * (k + 1) = 2 + i * (k + 1) + k + 1 by rw [Nat.add_mul]; omega]; exact HZ.out, KP.out.tr K4.out⟩
        case measure => simp [intOf] <;> omega
      · obtain rfl : i = 1 := by omega
        go_wp2_with fail
        exact bodyPost_ret (v := .tuple #[.slice A3 n3 c3, .bool true]) (by simp [results, Tryz.results116, go_sem]) rfl ⟨_, rfl, by rw [← HX.out]; exact ⟨HA.out.1.le (by omega), HA.out.2⟩, KP.out⟩
  · have hc := cmpN_gt (show 1 < x by omega)
    have HX := Lib.hid (show x ^ 2 = x * x by rw [Nat.pow_succ, Nat.pow_one])
    generalize cmpN x 1 = cc at hc ⊢
    clear hx OR
    go_wp2_with fail
    go_loopw [6, 7] (fun a b wr => ∃ i : Nat, b = .int .i64 (i : Nat) ∧ i ≤ 2 ∧ IsNew w.heap.size wr a (x ^ i) (2 + i * (k + 1)) ∧ Kp No w wr) (fun _ t _ => (2 - intOf t).toNat)
    case atStart => exact ⟨0, rfl, by omega, ⟨by simpa using HV.out.1, HV.out.2⟩, K1.out⟩
    case round =>
      obtain ⟨i, rfl, hi, ha, hkp⟩ := hrel
      have HA := Lib.hid ha
      have KP := Lib.hid hkp
      obtain ⟨A3, n3, c3, l3, rfl, _⟩ := ha.1.pos
      clear ha hkp
      by_cases hlt : i < 2
      · have g1 : (i : Int) < 2 := by omega
        have g2 : IntKind.i64.wrap ((i : Int) + 1) = (i : Int) + 1 := by rw [IntKind.wrap_i64]; omega
        have hm : 2 + i * (k + 1) ≤ 400 := by
          have : i = 0 ∨ i = 1 := by omega
          rcases this with rfl | rfl <;> omega
        have hm2 : 2 + i * (k + 1) + k + 1 ≤ 400 := by
          have : i = 0 ∨ i = 1 := by omega
          rcases this with rfl | rfl <;> omega
        have hsz := KP.out.size
        go_wp2_with fail
        refine (TI.out _ _ _ _ HA.out.1 KP.out hm).mono ?_
        rintro _ w4 ⟨z, rfl, hz, k4⟩
        have HZ := Lib.hid (hz.mono hsz)
        have K4 := Lib.hid k4
        obtain ⟨A5, n5, c5, l5, rfl, _, _, hn5, _⟩ := hz.1.pos
        have g3 : ((n5 : Nat) : Int) ≤ 512 := by omega
        clear hz k4 hn5
        go_wp2_with fail
        go_round
        case rel => exact ⟨i + 1, rfl, hlt, by rw [Nat.pow_succ, show 2 + (i + 1) * (k + 1) = 2 + i * (k + 1) + k + 1 by rw [Nat.add_mul]; omega]; exact HZ.out, KP.out.tr K4.out⟩
        case measure => simp [intOf] <;> omega
      · obtain rfl : i = 2 := by omega
        go_wp2_with fail
        exact bodyPost_ret (v := .tuple #[.slice A3 n3 c3, .bool true]) (by simp [results, Tryz.results116, go_sem]) rfl ⟨_, rfl, by rw [← HX.out]; exact ⟨HA.out.1.le (by omega), HA.out.2⟩, KP.out⟩
end Go.Proofs.YtlieijnhaolnhaaGreat

namespace Go.Proofs.YtlieijnhaolnhaaGreat
open Go.RowKit Go.Kq

set_option maxHeartbeats 1000000 in
set_option maxRecDepth 100000 in
theorem qsq_is (u : Value) (a : Rat) (k : Nat) (w : World) (hu : IsQuo w u a k) (hk : k ≤ 140) :
    Calls Tryz.prog 78 #[u, .int .i64 2] w fun e w' => ∃ z, e = .returned (.tuple #[z, .int .i64 0]) ∧ IsQuo w' z (a * a) (2 * k + 4) ∧ Kp No w w' := by
  have hu0 := hu
  obtain ⟨n1, d1, rfl, hn1, hd1⟩ := hu
  have hlow := mul_low a a
  have hdp : 0 < a.den * a.den := Nat.mul_pos a.den_pos a.den_pos
  rw [show (negQ a != negQ a) = false by cases negQ a <;> rfl] at hlow
  obtain ⟨s1, hs1⟩ : ∃ s, negQ a = s := ⟨_, rfl⟩
  rw [hs1] at hu0 ⊢
  have BQ := Lib.hid (fun (g : Nat) (w0 : World) (hk0 : Kp No w w0) (hh : w0.heap[g]? = some (.cells #[.bool s1, n1, d1] 94 (0, 0))) => badq_is g 1 1 [a] w0 rfl (by omega) (qat_one hh hs1 ((hu0.no hk0).le (by omega))))
  have P1 := Lib.hid (fun (w0 : World) (hk0 : Kp No w w0) => power_two n1 _ k w0 (hn1.no hk0) (by omega))
  have P2 := Lib.hid (fun (w0 : World) (hk0 : Kp No w w0) => power_two d1 _ k w0 (hd1.no hk0) (by omega))
  have LW := Lib.hid (fun (w0 : World) (x y : Value) hx hy => lowest_is false x y (a.num.natAbs * a.num.natAbs) (a.den * a.den) (2 * k + 4) w0 hx hy (by omega) hdp)
  rw [← hlow] at LW
  clear hlow hdp
  generalize a.num.natAbs = x1 at *
  generalize a.den = y1 at *
  generalize a * a = qq at *
  obtain ⟨A1, m1, c1, _, rfl, _⟩ := hn1.pos
  obtain ⟨A2, m2, c2, _, rfl, _⟩ := hd1.pos
  clear hn1 hd1 hu0 hs1
  obtain ⟨h1, h2, h3, KA⟩ := three_new w (.cells #[.bool s1, .slice A1 m1 c1, .slice A2 m2 c2] 94) (.cells #[.bool false, .slice none 0 0, .slice none 0 0] 94) (.cells #[.bool s1, .slice A1 m1 c1, .slice A2 m2 c2] 94)
  replace h1 := Lib.hid h1
  replace h2 := Lib.hid h2
  replace h3 := Lib.hid h3
  replace KA := Lib.hid KA
  go_enter Tryz.func78, Tryz.ntmps78
  go_wp2_with fail
  refine (BQ.out _ _ KA.out h3.out).mono ?_
  rintro _ wb ⟨rfl, kb⟩
  have KB := Lib.hid (KA.out.tr kb)
  have HB1 := kb.heap h1.out id
  obtain ⟨a0, a1, a2, _⟩ := three_cells HB1
  have HB2 := Lib.hid (kb.heap h2.out id)
  clear h1 h2 h3 KA kb BQ
  replace HB1 := Lib.hid HB1
  go_wp2_with fail
  go_quiet (fail)
  have kq := Kp.drewN No wb nq
  have KC := Lib.hid (KB.out.tr kq)
  replace a0 := kq.cell a0 id
  have HC1 := Lib.hid (kq.heap HB1.out id)
  have HC2 := Lib.hid (kq.heap HB2.out id)
  generalize wb.drewN nq = wc at *
  clear KB HB1 HB2 kq a1 a2
  go_wp2_with fail
  refine (P1.out _ KC.out).mono ?_
  rintro _ wd ⟨n, rfl, hn, kd⟩
  have HN := Lib.hid hn
  have KD := Lib.hid (KC.out.tr kd)
  have HD1 := Lib.hid (kd.heap HC1.out id)
  have HD2 := Lib.hid (kd.heap HC2.out id)
  obtain ⟨A3, m3, c3, _, rfl, _⟩ := hn.1.pos
  clear hn kd KC HC1 HC2 a0 P1
  go_wp2_with fail
  refine (P2.out _ KD.out).mono ?_
  rintro _ we ⟨d, rfl, hd, ke⟩
  have HN2 := Lib.hid (HN.out.no ke)
  have HD := Lib.hid hd
  have KE := Lib.hid (KD.out.tr ke)
  have HE1 := ke.heap HD1.out id
  obtain ⟨a0, _⟩ := three_cells HE1
  have HE2 := Lib.hid (ke.heap HD2.out id)
  obtain ⟨A4, m4, c4, _, rfl, _⟩ := hd.1.pos
  clear hd ke KD HD1 HD2 HN P2 HE1
  cases s1 <;> (
    go_wp2_with fail
    refine (LW.out _ _ _ HN2.out.1 HD.out.1).mono ?_
    rintro _ wf ⟨z, rfl, hz, kf⟩
    have KF := Lib.hid (KE.out.tr kf)
    have HF2 := kf.heap HE2.out id
    have hs2 : w.heap.size + 1 < wf.heap.size := (Array.getElem?_eq_some_iff.1 HF2).1
    obtain ⟨nn, dd, rfl, hnn, hdd⟩ := hz
    obtain ⟨A5, m5, c5, _, rfl, _⟩ := hnn.1.pos
    obtain ⟨A6, m6, c6, _, rfl, _⟩ := hdd.1.pos
    have hse : w.heap.size + 1 < we.heap.size := (Array.getElem?_eq_some_iff.1 HE2.out).1
    have HNN := Lib.hid hnn
    have HDD := Lib.hid hdd
    obtain ⟨x0, x1, x2, y0, y1, y2⟩ := three_cells HF2
    have HF := Lib.hid HF2
    clear hnn hdd kf HF2 LW
    go_wp2_with fail
    have hs := setQ_at HF.out (.bool (negQ qq)) (.slice A5 m5 c5) (.slice A6 m6 c6)
    have hk := kp_setQ wf (w.heap.size + 1) (.bool (negQ qq)) (.slice A5 m5 c5) (.slice A6 m6 c6)
    obtain ⟨z0, z1, z2, _⟩ := three_cells hs
    exact bodyPost_ret (v := .tuple #[.agg #[.bool (negQ qq), .slice A5 m5 c5, .slice A6 m6 c6], .int .i64 0]) (by simp [results, Tryz.results78, go_sem, z0, z1, z2]) rfl ⟨_, rfl, ⟨_, _, rfl, (HNN.out.kp hk hse).1, (HDD.out.kp hk hse).1⟩, KF.out.trans hk (fun k hk e => by unfold Kq.One at e; omega)⟩)
end Go.Proofs.YtlieijnhaolnhaaGreat

namespace Go.Kq
open Go.RowKit

/-- Operation st stores V at ad; ch: which operation comes behind which one. -/
structure HvC (base : World) (ad : Addr) (V : Value) (st : Nat) (ch : List (Nat × Nat)) (r : Nat → Option Value) (w : World) : Prop where
  b0 : r st = none → Kp No base w
  b1 : r st ≠ none → ∃ w0, Kp No base w0 ∧ w = w0.setCell ad V
  bl : ∀ p ∈ ch, r p.1 ≠ none → r p.2 ≠ none
section
variable {base w : World} {ad : Addr} {V : Value} {st : Nat} {ch : List (Nat × Nat)} {r : Nat → Option Value}
theorem HvC.start (base : World) (ad : Addr) (V : Value) (st : Nat) (ch : List (Nat × Nat)) : HvC base ad V st ch (fun _ => none) base.drew := ⟨fun _ => Kp.drew _ _, fun h => absurd rfl h, fun _ _ h => absurd rfl h⟩
theorem HvC.back (h : HvC base ad V st ch r w) {x y : Nat} (hp : (x, y) ∈ ch) (hy : r y = none) : r x = none :=
  Classical.byContradiction fun e => h.bl _ hp e hy
theorem upd_some {r : Nat → Option Value} {i j : Nat} {v : Value} (h : r j ≠ none) : Kq.upd r i v j ≠ none := by
  by_cases e : j = i
  · subst e; rw [upd_same]; exact fun h => by cases h
  · rw [upd_ne _ _ e]; exact h
theorem chain_upd {r : Nat → Option Value} {i : Nat} {v : Value} (hb : ∀ p ∈ ch, r p.1 ≠ none → r p.2 ≠ none) (hc : ∀ p ∈ ch, p.1 = i → r p.2 ≠ none) : ∀ p ∈ ch, Kq.upd r i v p.1 ≠ none → Kq.upd r i v p.2 ≠ none := fun p hp h => by
  by_cases e : p.1 = i
  · exact upd_some (hc p hp e)
  · rw [upd_ne _ _ e] at h
    exact upd_some (hb p hp h)
theorem HvC.updL (h : HvC base ad V st ch r w) (i : Nat) (v : Value) (hi : i ≠ st) (hc : ∀ p ∈ ch, p.1 = i → r p.2 ≠ none) : HvC base ad V st ch (Kq.upd r i v) w := by
  have e1 : Kq.upd r i v st = r st := upd_ne _ _ (fun e => hi e.symm)
  exact ⟨by rw [e1]; exact h.b0, by rw [e1]; exact h.b1, chain_upd h.bl hc⟩
theorem HvC.upd (h : HvC base ad V st ch r w) (i : Nat) (v : Value) (hi : i ≠ st) (hc : ∀ p ∈ ch, p.1 ≠ i) : HvC base ad V st ch (Kq.upd r i v) w :=
  h.updL i v hi fun p hp e => absurd e (hc p hp)
theorem HvC.store (h : HvC base ad V st ch r w) (v : Value) (hr : r st = none) (hc : ∀ p ∈ ch, p.1 = st → r p.2 ≠ none) : HvC base ad V st ch (Kq.upd r st v) (w.setCell ad V) :=
  ⟨fun e => (by rw [upd_same] at e; cases e), fun _ => ⟨w, h.b0 hr, rfl⟩, chain_upd h.bl hc⟩
end
end Go.Kq
