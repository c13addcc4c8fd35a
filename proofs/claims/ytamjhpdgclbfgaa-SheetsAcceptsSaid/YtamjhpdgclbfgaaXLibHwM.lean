/- Chapter 09: the reference's from, valid, cuts. · Chapter 09: plain: the reference's least number of plates in two steps is the program's. · Chapter 09: the reference's plate and Least: the walks. · Chapter 09: Judge: plain; the reference's overlap. · Values that a region draws and holds, and one box that it makes and fills: an invariant for wp_region_each. No program in sight. -/
import Derived.Test.YtamjhpdgclbfgaaXLibBitM
import Derived.Test.YtamjhpdgclbfgaaXCspM
import Derived.Test.YtamjhpdgclbfgaaXLibHvM
namespace Go.Proofs.Ytamjhpdgclbfgaa
open Go.RowKit Go.Kq

end Go.Proofs.Ytamjhpdgclbfgaa

namespace Go.Proofs.Ytamjhpdgclbfgaa
open Go.RowKit Go.Kq

end Go.Proofs.Ytamjhpdgclbfgaa

namespace Go.Proofs.Ytamjhpdgclbfgaa
open Go.RowKit Go.Kq

end Go.Proofs.Ytamjhpdgclbfgaa

namespace Go.Proofs.Ytamjhpdgclbfgaa
open Go.RowKit Go.Kq

/-- A spot that does not lie on the plate. -/
def badS (P : Pt) (n : Int) (c : Ct) (s : Spo) : Bool := decide (s.p < 0) || decide (n ≤ s.p) || decide (s.s < 0) || decide (n ≤ s.s) || outB s.x 0 (P.w - c.w) || outB s.y 0 (P.h - c.h)
/-- Do two cuts, made larger by the kerf, overlap? -/
def lapB (K : Int) (a b : Ct) (x y : Spo) : Bool := (x.p == y.p) && decide (x.x < y.x + b.w + K) && decide (y.x < x.x + a.w + K) && decide (x.y < y.y + b.h + K) && decide (y.y < x.y + a.h + K)
def lapI (K : Int) (L : List (Ct × Spo)) (i : Nat) : Bool := match L[i]? with
  | none => false
  | some q => (L.take i).any fun r => lapB K q.1 r.1 q.2 r.2
def judV (P : Pt) (l : List Ct) (at_ : List Spo) : Int :=
  if jchk P l 200 ≠ 0 then jchk P l 200 else if at_.length ≠ l.length then 2 else if (l.zip at_).any fun q => badS P l.length q.1 q.2 then 2
  else if (List.range l.length).any (lapI P.k (l.zip at_)) then 8 else 0
theorem badS_no {P : Pt} {n : Int} {c : Ct} {s : Spo} (h : badS P n c s = false) : (0 ≤ s.x ∧ s.x ≤ P.w - c.w) ∧ 0 ≤ s.y ∧ s.y ≤ P.h - c.h := by
  unfold badS at h
  simp only [Bool.or_eq_false_iff] at h
  obtain ⟨⟨_, h1⟩, h2⟩ := h
  unfold outB at h1 h2
  simp only [Bool.or_eq_false_iff, decide_eq_false_iff_not] at h1 h2
  omega
theorem ju_zip_at {α β : Type} : ∀ {l : List α} {m : List β} {k : Nat} {a : α} {b : β}, l[k]? = some a → m[k]? = some b → (l.zip m)[k]? = some (a, b)
  | [], _, _, _, _, h, _ => by simp at h
  | _ :: _, [], _, _, _, _, h => by simp at h
  | a :: l, b :: m, 0, _, _, h, h2 => by simp at h h2; subst h; subst h2; rfl
  | a :: l, b :: m, k + 1, _, _, h, h2 => by
    simp only [List.zip_cons_cons, List.getElem?_cons_succ]
    exact ju_zip_at (by simpa using h) (by simpa using h2)
theorem rdc_here {w : World} {b n k : Nat} {o : Nat} {l : List Ct} {c : Ct} (h : RdC w (some ⟨b, o, none⟩) n l) (hv : l[k]? = some c) : w.cell? ⟨b, o + k * 2, none⟩ = some (.int .i64 c.w) ∧ w.cell? ⟨b, o + k * 2 + 1, none⟩ = some (.int .i64 c.h) := by
  obtain ⟨b', o', e, _, hc⟩ := h.2 k c hv
  simp at e
  obtain ⟨rfl, rfl⟩ := e
  exact ⟨hc 0 _ rfl, hc 1 _ rfl⟩
theorem rds_here {w : World} {b n k : Nat} {o : Nat} {l : List Spo} {s : Spo} (h : RdS w (some ⟨b, o, none⟩) n l) (hv : l[k]? = some s) : w.cell? ⟨b, o + k * 4, none⟩ = some (.int .i64 s.p) ∧ w.cell? ⟨b, o + k * 4 + 1, none⟩ = some (.int .i64 s.s) ∧ w.cell? ⟨b, o + k * 4 + 2, none⟩ = some (.int .i64 s.x) ∧ w.cell? ⟨b, o + k * 4 + 3, none⟩ = some (.int .i64 s.y) := by
  obtain ⟨b', o', e, _, hc⟩ := h.2 k s hv
  simp at e
  obtain ⟨rfl, rfl⟩ := e
  exact ⟨hc 0 _ rfl, hc 1 _ rfl, hc 2 _ rfl, hc 3 _ rfl⟩
theorem range_any_succ (p : Nat → Bool) (k : Nat) : (List.range (k + 1)).any p = ((List.range k).any p || p k) := by
  rw [List.range_succ]
  simp
theorem range_any_at {p : Nat → Bool} {n k : Nat} (h : k < n) (hp : p k = true) : (List.range n).any p = true := List.any_eq_true.2 ⟨k, List.mem_range.2 h, hp⟩
theorem lapB_no {K : Int} {a b : Ct} {x y : Spo} (h : x.p ≠ y.p ∨ y.x + b.w + K ≤ x.x ∨ x.x + a.w + K ≤ y.x ∨ y.y + b.h + K ≤ x.y ∨ x.y + a.h + K ≤ y.y) : lapB K a b x y = false := by
  unfold lapB
  rcases h with h | h | h | h | h
  · rw [beq_eq_false_iff_ne.2 h]; rfl
  all_goals
    rw [decide_eq_false (Int.not_lt.2 h)]
    simp
theorem lapB_yes {K : Int} {a b : Ct} {x y : Spo} (h0 : x.p = y.p) (h1 : x.x < y.x + b.w + K) (h2 : y.x < x.x + a.w + K) (h3 : x.y < y.y + b.h + K) (h4 : y.y < x.y + a.h + K) : lapB K a b x y = true := by
  unfold lapB
  rw [h0, decide_eq_true h1, decide_eq_true h2, decide_eq_true h3, decide_eq_true h4]
  simp
end Go.Proofs.Ytamjhpdgclbfgaa

namespace Go.Kq
open Go.RowKit

/-- Operation ai makes a box, operation st stores into it what operation src gave. -/
structure HvA (base : World) (t : TypeId) (zero : Array Value) (ai st src : Nat) (F : Nat → World → Value → Prop) (r : Nat → Option Value) (w : World) : Prop where
  kp : Kp No base w
  b0 : r st = none → ∀ u, r ai = some u → ∃ g, u = .pointer (some ⟨g, 0, none⟩) ∧ base.heap.size ≤ g ∧ w.heap[g]? = some (.cells zero t (0, 0))
  b1 : r st ≠ none → ∃ g cs, r ai = some (.pointer (some ⟨g, 0, none⟩)) ∧ base.heap.size ≤ g ∧ r src = some (.agg cs) ∧ w.heap[g]? = some (.cells cs t (0, 0))
  hv : ∀ i u, r i = some u → F i w u
section
variable {base w w' : World} {t : TypeId} {zero : Array Value} {ai st src : Nat} {F : Nat → World → Value → Prop} {r : Nat → Option Value}
theorem HvA.start (base : World) (t : TypeId) (zero : Array Value) (ai st src : Nat) (F : Nat → World → Value → Prop) : HvA base t zero ai st src F (fun _ => none) base.drew :=
  ⟨Kp.drew _ _, fun _ _ h => (by cases h), fun h => absurd rfl h, fun _ _ h => (by cases h)⟩
theorem hv_upd {F : Nat → World → Value → Prop} {r : Nat → Option Value} {w : World} (h : ∀ i u, r i = some u → F i w u) (i : Nat) (v : Value) (hf : F i w v) : ∀ j u, Kq.upd r i v j = some u → F j w u := fun j u hu => by
  by_cases e : j = i
  · subst e
    rw [upd_same] at hu
    cases hu
    exact hf
  · rw [upd_ne _ _ e] at hu
    exact h j u hu
theorem HvA.upd (h : HvA base t zero ai st src F r w) (i : Nat) (v : Value) (hr : r i = none) (hi : i ≠ st) (ha : i ≠ ai) (hf : F i w v) : HvA base t zero ai st src F (Kq.upd r i v) w := by
  have e1 : Kq.upd r i v st = r st := upd_ne _ _ (fun e => hi e.symm)
  have e2 : Kq.upd r i v ai = r ai := upd_ne _ _ (fun e => ha e.symm)
  refine ⟨h.kp, by rw [e1, e2]; exact h.b0, fun hs => ?_, hv_upd h.hv i v hf⟩
  rw [e1] at hs
  obtain ⟨g, cs, h1, h2, h3, h4⟩ := h.b1 hs
  exact ⟨g, cs, by rw [e2]; exact h1, h2, by rw [upd_ne _ _ (fun e => by rw [e, hr] at h3; cases h3)]; exact h3, h4⟩
theorem HvA.call (h : HvA base t zero ai st src F r w) (hF : Stab F) (k : Kp No w w') : HvA base t zero ai st src F r w' :=
  ⟨h.kp.tr k, fun hs u hu => by
    obtain ⟨g, h1, h2, h3⟩ := h.b0 hs u hu
    exact ⟨g, h1, h2, k.heap h3 id⟩, fun hs => by
    obtain ⟨g, cs, h1, h2, h3, h4⟩ := h.b1 hs
    exact ⟨g, cs, h1, h2, h3, k.heap h4 id⟩, fun i u hu => hF i u w w' k (h.hv i u hu)⟩
theorem HvA.alloc (h : HvA base t zero ai st src F r w) (hF : Stab F) (hr : r ai = none) (hne : ai ≠ st) (hf : F ai (w.alloc (.cells zero t)) (.pointer (some ⟨w.heap.size, 0, none⟩))) : HvA base t zero ai st src F (Kq.upd r ai (.pointer (some ⟨w.heap.size, 0, none⟩))) (w.alloc (.cells zero t)) := by
  have e1 : Kq.upd r ai (.pointer (some ⟨w.heap.size, 0, none⟩)) st = r st := upd_ne _ _ (fun e => hne e.symm)
  refine ⟨h.kp.tr (Kp.alloc _ _ _), fun hs u hu => ?_, fun hs => ?_, hv_upd (fun i u hu => hF i u _ _ (Kp.alloc No w _) (h.hv i u hu)) _ _ hf⟩
  · rw [upd_same] at hu
    cases hu
    exact ⟨_, rfl, h.kp.size, heap_alloc_new w _⟩
  · rw [e1] at hs
    obtain ⟨g, cs, h1, _⟩ := h.b1 hs
    rw [hr] at h1
    cases h1
theorem HvA.store (h : HvA base t zero ai st src F r w) {g : Nat} {cs : Array Value} (ha : r ai = some (.pointer (some ⟨g, 0, none⟩))) (hg : base.heap.size ≤ g) (hF : ∀ i u, F i w u → F i w' u) (hne : src ≠ st) (hne2 : ai ≠ st) (hu : r src = some (.agg cs)) (hk : Kp (One g) w w') (hh : w'.heap[g]? = some (.cells cs t (0, 0))) (v : Value) (hf : F st w' v) :
    HvA base t zero ai st src F (Kq.upd r st v) w' :=
  ⟨h.kp.trans hk (fun k hk e => by unfold One at e; omega), fun hs => (by rw [upd_same] at hs; cases hs), fun _ => ⟨g, cs, by rw [upd_ne _ _ hne2]; exact ha, hg, by rw [upd_ne _ _ hne]; exact hu, hh⟩, hv_upd (fun i u hu => hF i u (h.hv i u hu)) _ _ hf⟩
end
end Go.Kq
