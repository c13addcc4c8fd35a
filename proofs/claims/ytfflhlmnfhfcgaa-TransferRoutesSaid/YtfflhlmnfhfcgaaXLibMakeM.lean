/- Chapter 33: Route in plain lists: what is known of the costs; what Route returns. · Rows that make and literals lay: plain facts. No program in sight. -/
import Derived.Test.YtfflhlmnfhfcgaaXRtQ
import Derived.Test.YtfflhlmnfhfcgaaXMetP
import Derived.Test.YtfflhlmnfhfcgaaXLibRow
namespace Go.Proofs.Ytfflhlmnfhfcgaa
open Go.RowKit Go.Kq

theorem tot_const {α : Type} {f : α → Int} {c : Int} : ∀ l : List α, (∀ x ∈ l, f x ≤ c) → tot f l ≤ c * l.length
  | [], _ => by simp [tot]
  | x :: l, h => by
    have h1 := h x (by simp)
    have h2 := tot_const l fun y hy => h y (by simp [hy])
    rw [tot_cons, List.length_cons, Int.natCast_add, Int.mul_add]
    omega
theorem cst_bd {xs ys : List Vc} {L : List Nat} (hx : xs.length ≤ 24) (hy : ys.length ≤ 14) (sx : Sane xs) (sy : Sane ys) (hL : L.length ≤ 15) : 0 ≤ Cst xs ys L ∧ Cst xs ys L ≤ 560000000 := by
  have hc := costs_of sx sy hx hy
  have hb := canon_bounds (tk (bal (btw xs [])) ys L) (univ (xs ++ ys))
  have hn : 0 ≤ tot (fun k => absI (tk (bal (btw xs [])) ys L k)) (univ (xs ++ ys)) := tot_nn _ fun _ _ => absI_nn _
  have hm : tot (fun k => absI (tk (bal (btw xs [])) ys L k)) (univ (xs ++ ys)) ≤ 80000 * (univ (xs ++ ys)).length := tot_const _ fun k _ => by
    have := hc.bd L k hL
    unfold absI
    split <;> omega
  have hf := hc.few
  unfold Cst
  omega
theorem bst_facts {xs ys : List Vc} {f t : Int} (hx : xs.length ≤ 24) (hy : ys.length ≤ 14) (gx : ∀ v ∈ xs, v.bad = false) (gy : ∀ v ∈ ys, v.bad = false) (hf : 0 ≤ f ∧ f ≤ 5) :
    ∃ out c, bestV (pvo xs f f xs.length) (pvo ys t f ys.length) 14 = (out, c, 0) ∧ out.length ≤ 14 ∧ (∀ i ∈ out, i < (pin ys t ys.length).length) ∧ 0 ≤ c ∧ c ≤ 560000000 := by
  have hk := pvo_chk (d := f) (t := t) hx hy gx gy hf
  have he : (bestV (pvo xs f f xs.length) (pvo ys t f ys.length) 14).2.2 = 0 := by
    unfold bestV
    rw [if_neg (by omega), if_neg (by omega)]
  rcases hb : bestV (pvo xs f f xs.length) (pvo ys t f ys.length) 14 with ⟨out, c, e⟩
  rw [hb] at he
  replace he : e = 0 := he
  subst he
  obtain ⟨_, _, _, h1, h2, h3, _⟩ := best_facts hb
  have hz := chk_zero hk
  refine ⟨out, c, rfl, by omega, ?_, ?_⟩
  · rw [pvo_len] at h2
    have key : ∀ {n i : Nat} {O : List Nat}, Asc n i O → ∀ j ∈ O, j < n := by
      intro n i O
      induction O generalizing i with
      | nil => intro _ j hj; cases hj
      | cons a O ih =>
        intro h j hj
        rcases List.mem_cons.1 hj with rfl | hj
        · exact h.2.1
        · exact ih h.2.2 j hj
    exact key h2
  · rw [h1]
    exact cst_bd hz.1 (by omega) (bad_sane hz.2.2.1) (bad_sane hz.2.2.2) (by omega)
theorem cho_facts {xs ys : List Vc} {f t : Int} (hx : xs.length ≤ 24) (hy : ys.length ≤ 14) (gx : ∀ v ∈ xs, v.bad = false) (gy : ∀ v ∈ ys, v.bad = false) (hf : 0 ≤ f ∧ f ≤ 5) : 0 ≤ (cho xs ys f t).cost ∧ (cho xs ys f t).cost ≤ 560000000 ∧ (cho xs ys f t).stops.length ≤ 14 := by
  obtain ⟨out, c, hb, h1, h2, h3, h4⟩ := bst_facts (t := t) hx hy gx gy hf
  unfold cho
  rw [hb]
  simp
  omega
theorem allC_facts {xs ys : List Vc} (hx : xs.length ≤ 24) (hy : ys.length ≤ 14) (gx : ∀ v ∈ xs, v.bad = false) (gy : ∀ v ∈ ys, v.bad = false) :
    (∀ cs ∈ allC xs ys, ∀ x ∈ cs, 0 ≤ x.cost ∧ x.cost ≤ 560000000 ∧ x.stops.length ≤ 14) ∧ ∀ cs ∈ allC xs ys, ∃ x ∈ cs, x.to < 0 := by
  constructor
  · intro cs hcs x hxm
    obtain ⟨f, hf, rfl⟩ := List.mem_map.1 hcs
    obtain ⟨t, _, rfl⟩ := List.mem_map.1 hxm
    have := (divs_mem xs f).1 hf
    exact cho_facts hx hy gx gy ⟨by omega, by omega⟩
  · intro cs hcs
    obtain ⟨f, hf, rfl⟩ := List.mem_map.1 hcs
    exact ⟨cho xs ys f (-1), List.mem_map.2 ⟨-1, by simp [tos], rfl⟩, by show (-1 : Int) < 0; omega⟩
/-- What Route returns: From, To, Stops, Cost, and the error. -/
structure RtV where
  from_ : List Nat
  rs : Rs
  err : Int
def routeV (xs ys : List Vc) : RtV :=
  if chk xs ys 14 ≠ 0 then ⟨[], ⟨0, [], []⟩, chk xs ys 14⟩ else if 4 < (divs xs).length then ⟨[], ⟨0, [], []⟩, 3⟩ else ⟨divs xs, bestR (allC xs ys), 0⟩
end Go.Proofs.Ytfflhlmnfhfcgaa

namespace Go.Kq
open Go.RowKit

theorem made_flat {α : Type} (f : α → List Value) (x : α) (z : Array Value) (s n : Nat) (hz : z.size = s) (hs : 0 < s) (hf : f x = z.toList) : madeCells z (n * s) = ((List.replicate n x).flatMap f).toArray := by
  have hfl : ∀ y : Unit, ((fun _ : Unit => z.toList) y).length = s := fun _ => by simpa using hz
  have e : (List.replicate n x).flatMap f = (List.replicate n ()).flatMap fun _ => z.toList := by
    rw [List.flatMap_replicate, List.flatMap_replicate, hf]
  rw [e]
  apply Array.ext
  · rw [size_madeCells, List.size_toArray, flat_len hfl, List.length_replicate]
  · intro i h1 h2
    rw [size_madeCells] at h1
    have hd : i / s < n := Nat.div_lt_of_lt_mul (by rw [Nat.mul_comm]; exact h1)
    have hm : i % s < z.size := by rw [hz]; exact Nat.mod_lt _ hs
    have := flat_at hfl (List.replicate n ()) (i / s) () (i % s) z[i % s] (by simp [hd]) (by simp [hm])
    rw [Nat.div_add_mod'] at this
    obtain ⟨h3, h4⟩ := List.getElem?_eq_some_iff.1 this
    simp only [List.getElem_toArray]
    rw [h4]
    have hm' : z[i % s]! = z[i % s] := getElem!_pos z (i % s) hm
    simp [madeCells, hz, hm']
theorem own_made (w : World) {base e s n : Nat} {xs : List Value} (hl : xs.length = n * s) (hb : base ≤ w.heap.size) (hn : n ≤ maxLen) : (w.alloc (.cells xs.toArray e)).ownsRow base e s (.slice (some ⟨w.heap.size, 0, none⟩) n n) n xs :=
  ⟨hl, .inr ⟨_, n, xs.toArray, rfl, hb, heap_alloc_new w _, Nat.le_refl _, hn, by simpa using hl, by rw [← hl]; simp⟩⟩
theorem run_make_flat {P : Program} (w : World) {α : Type} (f : α → List Value) (x : α) (t e : TypeId) (i : TypeInfo) (z : Value) (s bytes n : Nat) (ht : P.underlying t = some (.slice e)) (hi : P.info? e = some i) (hz : i.zero = some z) (hsz : i.size = s) (hby : i.bytes = bytes) (hs : 0 < s) (hzs : z.cells.size = s) (hf : f x = z.cells.toList) (hb : bytes * n ≤ 281474976710656) (hn : n ≤ 9223372036854775807) :
    (Instr.makeSlice t (.int .i64 (n : Nat)) (.int .i64 (n : Nat))).run P w = .ok (.slice (some ⟨w.heap.size, 0, none⟩) n n) (w.alloc (.cells ((List.replicate n x).flatMap f).toArray e)) := by
  have h := run_make (P := P) w t e i z ht hi hz .i64 .i64 n n (by omega) (by omega) (by rw [hby, ← Int.natCast_mul]; omega) (by omega)
  rw [h, hsz, show (n : Int).toNat = n by omega, made_flat f x z.cells s n hzs hs hf]
end Go.Kq
