/- Values that a region draws and holds, and one box that it makes and fills: an invariant for wp_region_each. No program in sight. · Spans of fractions: over: the walk. -/
import Derived.Test.YtlieijnhaolnhaaGreatXLibBoxM
import Derived.Test.YtlieijnhaolnhaaGreatXNtwM
namespace Go.Kq
open Go.RowKit

/-- Operation ai makes a box, operation st stores into it what operation src gave. -/
structure HvA (base : World) (t : TypeId) (zero : Array Value) (ai st src : Nat) (F : Nat → World → Value → Prop) (r : Nat → Option Value) (w : World) : Prop where
  kp : Kp No base w
  b0 : r st = none → ∀ u, r ai = some u → ∃ g, u = .pointer (some ⟨g, 0, none⟩) ∧ base.heap.size ≤ g ∧ w.heap[g]? = some (.cells zero t (0, 0))
  b1 : r st ≠ none → ∃ g cs, r ai = some (.pointer (some ⟨g, 0, none⟩)) ∧ base.heap.size ≤ g ∧ r src = some (.agg cs) ∧ w.heap[g]? = some (.cells cs t (0, 0))
  hv : ∀ i u, r i = some u → F i w u
section
variable {base w w' : World} {t : TypeId} {zero : Array Value} {ai st src : Nat} {F : Nat → World → Value → Prop} {r : Nat → Option Value}
theorem HvA.start (base : World) (t : TypeId) (zero : Array Value) (ai st src : Nat) (F : Nat → World → Value → Prop) : HvA base t zero ai st src F (fun _ => none) base.drew :=
  ⟨Kp.drew _ _, fun _ _ h => (by cases h), fun h => absurd rfl h, fun _ _ h => (by cases h)⟩
theorem hv_upd {F : Nat → World → Value → Prop} {r : Nat → Option Value} {w : World} (h : ∀ i u, r i = some u → F i w u) (i : Nat) (v : Value) (hf : F i w v) : ∀ j u, Kq.upd r i v j = some u → F j w u := fun j u hu => by
  by_cases e : j = i
  · subst e
    rw [upd_same] at hu
    cases hu
    exact hf
  · rw [upd_ne _ _ e] at hu
    exact h j u hu
theorem HvA.upd (h : HvA base t zero ai st src F r w) (i : Nat) (v : Value) (hr : r i = none) (hi : i ≠ st) (ha : i ≠ ai) (hf : F i w v) : HvA base t zero ai st src F (Kq.upd r i v) w := by
  have e1 : Kq.upd r i v st = r st := upd_ne _ _ (fun e => hi e.symm)
  have e2 : Kq.upd r i v ai = r ai := upd_ne _ _ (fun e => ha e.symm)
  refine ⟨h.kp, by rw [e1, e2]; exact h.b0, fun hs => ?_, hv_upd h.hv i v hf⟩
  rw [e1] at hs
  obtain ⟨g, cs, h1, h2, h3, h4⟩ := h.b1 hs
  exact ⟨g, cs, by rw [e2]; exact h1, h2, by rw [upd_ne _ _ (fun e => by rw [e, hr] at h3; cases h3)]; exact h3, h4⟩
theorem HvA.call (h : HvA base t zero ai st src F r w) (hF : Stab F) (k : Kp No w w') : HvA base t zero ai st src F r w' :=
  ⟨h.kp.tr k, fun hs u hu => by
    obtain ⟨g, h1, h2, h3⟩ := h.b0 hs u hu
    exact ⟨g, h1, h2, k.heap h3 id⟩, fun hs => by
    obtain ⟨g, cs, h1, h2, h3, h4⟩ := h.b1 hs
    exact ⟨g, cs, h1, h2, h3, k.heap h4 id⟩, fun i u hu => hF i u w w' k (h.hv i u hu)⟩
theorem HvA.alloc (h : HvA base t zero ai st src F r w) (hF : Stab F) (hr : r ai = none) (hne : ai ≠ st) (hf : F ai (w.alloc (.cells zero t)) (.pointer (some ⟨w.heap.size, 0, none⟩))) : HvA base t zero ai st src F (Kq.upd r ai (.pointer (some ⟨w.heap.size, 0, none⟩))) (w.alloc (.cells zero t)) := by
  have e1 : Kq.upd r ai (.pointer (some ⟨w.heap.size, 0, none⟩)) st = r st := upd_ne _ _ (fun e => hne e.symm)
  refine ⟨h.kp.tr (Kp.alloc _ _ _), fun hs u hu => ?_, fun hs => ?_, hv_upd (fun i u hu => hF i u _ _ (Kp.alloc No w _) (h.hv i u hu)) _ _ hf⟩
  · rw [upd_same] at hu
    cases hu
    exact ⟨_, rfl, h.kp.size, heap_alloc_new w _⟩
  · rw [e1] at hs
    obtain ⟨g, cs, h1, _⟩ := h.b1 hs
    rw [hr] at h1
    cases h1
theorem HvA.store (h : HvA base t zero ai st src F r w) {g : Nat} {cs : Array Value} (ha : r ai = some (.pointer (some ⟨g, 0, none⟩))) (hg : base.heap.size ≤ g) (hF : ∀ i u, F i w u → F i w' u) (hne : src ≠ st) (hne2 : ai ≠ st) (hu : r src = some (.agg cs)) (hk : Kp (One g) w w') (hh : w'.heap[g]? = some (.cells cs t (0, 0))) (v : Value) (hf : F st w' v) :
    HvA base t zero ai st src F (Kq.upd r st v) w' :=
  ⟨h.kp.trans hk (fun k hk e => by unfold One at e; omega), fun hs => (by rw [upd_same] at hs; cases hs), fun _ => ⟨g, cs, by rw [upd_ne _ _ hne2]; exact ha, hg, by rw [upd_ne _ _ hne]; exact hu, hh⟩, hv_upd (fun i u hu => hF i u (h.hv i u hu)) _ _ hf⟩
end
end Go.Kq

namespace Go.Proofs.YtlieijnhaolnhaaGreat
open Go.RowKit Go.Kq

theorem IsNat.apart {w : World} {v : Value} {N k g : Nat} {x : Bool} {A B : Option Addr} {a b c d : Nat} {t : TypeId} (h : IsNat w v N k) (hz : w.heap[g]? = some (.cells #[.bool x, .slice A a b, .slice B c d] t (0, 0))) : ∀ b, NatBlk v b → b ≠ g := by
  rintro b' ⟨o, n, cc, rfl, hn⟩ rfl
  obtain ⟨A', n', c', l, e, h2, _⟩ := h
  injection e with e1 e2 e3
  subst e1 e2
  have hl := h2.len
  obtain ⟨y, hy⟩ : ∃ y, l[0]? = some y := ⟨_, List.getElem?_eq_getElem (by omega)⟩
  obtain ⟨b2, o2, hA, _, hc⟩ := h2.at_ 0 y hy
  injection hA with hA
  injection hA with hA1 hA2
  subst hA1 hA2
  rw [Nat.add_zero, cell_of_row _ _ _ _ _ _ hz] at hc
  match o, hc with
  | 0, hc => simp at hc
  | 1, hc => simp at hc
  | 2, hc => simp at hc
  | o + 3, hc => simp at hc
theorem IsNat.kpZ {w w' : World} {v : Value} {N k g : Nat} {x : Bool} {A B : Option Addr} {a b c d : Nat} {t : TypeId} (h : IsNat w v N k) (hk : Kp (Kq.One g) w w') (hz : w.heap[g]? = some (.cells #[.bool x, .slice A a b, .slice B c d] t (0, 0))) : IsNat w' v N k :=
  h.kpB hk fun b' hb e => h.apart hz b' hb e
theorem IsQuo.kpZ {w w' : World} {v : Value} {q : Rat} {k g : Nat} {x : Bool} {A B : Option Addr} {a b c d : Nat} {t : TypeId} (h : IsQuo w v q k) (hk : Kp (Kq.One g) w w') (hz : w.heap[g]? = some (.cells #[.bool x, .slice A a b, .slice B c d] t (0, 0))) : IsQuo w' v q k := by
  obtain ⟨n, d, h1, h2, h3⟩ := h
  exact ⟨n, d, h1, h2.kpZ hk hz, h3.kpZ hk hz⟩
theorem IsNew.kpZ {w w' : World} {v : Value} {N k g G : Nat} {x : Bool} {A B : Option Addr} {a b c d : Nat} {t : TypeId} (h : IsNew G w v N k) (hk : Kp (Kq.One g) w w') (hz : w.heap[g]? = some (.cells #[.bool x, .slice A a b, .slice B c d] t (0, 0))) : IsNew G w' v N k :=
  ⟨h.1.kpZ hk hz, h.2⟩
theorem QuoNew.kpZ {w w' : World} {v : Value} {q : Rat} {k g G : Nat} {x : Bool} {A B : Option Addr} {a b c d : Nat} {t : TypeId} (h : QuoNew G w v q k) (hk : Kp (Kq.One g) w w') (hz : w.heap[g]? = some (.cells #[.bool x, .slice A a b, .slice B c d] t (0, 0))) : QuoNew G w' v q k := by
  obtain ⟨n, d, h1, h2, h3⟩ := h
  exact ⟨n, d, h1, h2.kpZ hk hz, h3.kpZ hk hz⟩
theorem TupQ.kpZ {w w' : World} {v : Value} {q : Rat} {k g G : Nat} {x : Bool} {A B : Option Addr} {a b c d : Nat} {t : TypeId} (h : TupQ G w v q k) (hk : Kp (Kq.One g) w w') (hz : w.heap[g]? = some (.cells #[.bool x, .slice A a b, .slice B c d] t (0, 0))) : TupQ G w' v q k := by
  obtain ⟨z, h1, h2⟩ := h
  exact ⟨z, h1, h2.kpZ hk hz⟩
theorem TupQ.kp {w w' : World} {v : Value} {q : Rat} {k g B : Nat} (h : TupQ g w v q k) (hk : Kp (Kq.One B) w w') (hB : B < g) : TupQ g w' v q k := by
  obtain ⟨z, h1, h2⟩ := h
  exact ⟨z, h1, h2.kp hk hB⟩
def TupI (w : World) (u : Value) (q : Rat) (k : Nat) : Prop := ∃ z, u = .tuple #[z, .int .i64 0] ∧ IsQuo w z q k
theorem TupI.no {w w' : World} {v : Value} {q : Rat} {k : Nat} (h : TupI w v q k) (hk : Kp No w w') : TupI w' v q k := by
  obtain ⟨z, h1, h2⟩ := h
  exact ⟨z, h1, h2.no hk⟩
theorem TupI.kpZ {w w' : World} {v : Value} {q : Rat} {k g : Nat} {x : Bool} {A B : Option Addr} {a b c d : Nat} {t : TypeId} (h : TupI w v q k) (hk : Kp (Kq.One g) w w') (hz : w.heap[g]? = some (.cells #[.bool x, .slice A a b, .slice B c d] t (0, 0))) : TupI w' v q k := by
  obtain ⟨z, h1, h2⟩ := h
  exact ⟨z, h1, h2.kpZ hk hz⟩
set_option maxHeartbeats 1000000 in
set_option maxRecDepth 100000 in
theorem over_is (num den : Int) (w : World) (hn : -9223372036854775808 < num ∧ num < 9223372036854775808) (hd : -9223372036854775808 < den ∧ den < 9223372036854775808) (h0 : den ≠ 0) :
    Calls Tryz.prog 69 #[.int .i64 num, .int .i64 den] w fun e w' => ∃ z, e = .returned z ∧ QuoNew w.heap.size w' z ((num : Rat) / (den : Rat)) 5 ∧ Kp No w w' := by
  have Q1 := Lib.hid (fun w0 => quo_is num w0 hn)
  have Q2 := Lib.hid (fun w0 => quo_is den w0 hd)
  have hne : (den : Rat) ≠ 0 := fun h => h0 (by have := congrArg Rat.num h; simpa using this)
  have QD := Lib.hid (fun (w0 : World) (u v : Value) hu hv => qdiv_is u v (num : Rat) (den : Rat) 2 2 w0 hu hv (by omega) hne)
  generalize (num : Rat) / (den : Rat) = qq at *
  have KA := Lib.hid (Kp.alloc No w (.cells #[.bool false, .slice none 0 0, .slice none 0 0] 94))
  have RB := Lib.hid (at_newQ w (.cells #[.bool false, .slice none 0 0, .slice none 0 0] 94))
  clear hn hd h0 hne
  go_enter Tryz.func69, Tryz.ntmps69
  go_wp2_with fail
  generalize w.alloc (.cells #[.bool false, .slice none 0 0, .slice none 0 0] 94) = w1 at *
  refine (Q1.out _).mono ?_
  rintro _ w2 ⟨u, rfl, hu, k2⟩
  have HU := Lib.hid hu.is
  have K2 := Lib.hid (KA.out.tr k2)
  have R2 := Lib.hid (k2.heap RB.out id)
  clear hu k2 Q1
  go_wp2_with fail
  refine (Q2.out _).mono ?_
  rintro _ w3 ⟨v, rfl, hv, k3⟩
  have HV := Lib.hid hv.is
  have HU3 := Lib.hid (HU.out.no k3)
  have K3 := Lib.hid (K2.out.tr k3)
  have R3 := Lib.hid (k3.heap R2.out id)
  clear hv k3 Q2 HU R2
  go_wp2_with fail
  refine (QD.out _ _ _ HU3.out HV.out).mono ?_
  rintro _ w4 ⟨z, rfl, hz, k4⟩
  have hs3 : w.heap.size < w3.heap.size := (Array.getElem?_eq_some_iff.1 R3.out).1
  have K4 := Lib.hid (K3.out.tr k4)
  have R4 := Lib.hid (k4.heap R3.out id)
  obtain ⟨n, d, rfl, hn, hd⟩ := hz
  obtain ⟨A1, m1, c1, _, rfl, _⟩ := hn.1.pos
  obtain ⟨A2, m2, c2, _, rfl, _⟩ := hd.1.pos
  have HN := Lib.hid hn
  have HD := Lib.hid hd
  obtain ⟨x0, x1, x2, y0, y1, y2⟩ := three_cells R4.out
  have hs4 : w.heap.size < w4.heap.size := Nat.lt_of_lt_of_le hs3 k4.size
  clear hn hd k4 QD
  go_wp2_with fail
  have hs := setQ_at R4.out (.bool (negQ qq)) (.slice A1 m1 c1) (.slice A2 m2 c2)
  have hk := kp_setQ w4 w.heap.size (.bool (negQ qq)) (.slice A1 m1 c1) (.slice A2 m2 c2)
  generalize ((w4.setCell { block := w.heap.size, off := 0 } (Value.bool (negQ qq))).setCell { block := w.heap.size, off := 1 } (Value.slice A1 m1 c1)).setCell { block := w.heap.size, off := 2 } (Value.slice A2 m2 c2) = w5 at *
  have hk0 := Kp.alloc No w5 (.cells #[.bool (negQ qq), .slice A1 m1 c1, .slice A2 m2 c2] 94)
  obtain ⟨z0, z1, z2, _⟩ := three_cells (hk0.heap hs id)
  exact bodyPost_ret (v := .agg #[.bool (negQ qq), .slice A1 m1 c1, .slice A2 m2 c2]) (by simp [results, Tryz.results69, go_sem, z0, z1, z2]) rfl ⟨_, rfl, ⟨_, _, rfl, ((HN.out.kp hk hs3).no hk0).mono (Nat.le_of_lt hs3), ((HD.out.kp hk hs3).no hk0).mono (Nat.le_of_lt hs3)⟩, (K4.out.trans hk (fun k hk e => by unfold Kq.One at e; omega)).tr hk0⟩
end Go.Proofs.YtlieijnhaolnhaaGreat
