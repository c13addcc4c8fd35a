/- Rows: what a slice that the call made, or that came in, reads as: plain facts. No program in sight. · Chapter 24: values and cells of fields; the small functions; the first place at which a test holds. -/
import Derived.Laws.MakeOwn
import Derived.BigQuiet
import Derived.Test.YtakgcnjpmpcekaaGreatProg
import Derived.Test.YtakgcnjpmpcekaaGreatXLibAppM
namespace Go.Kq
open Go.RowKit

theorem own_form {w : World} {base n : Nat} {e : TypeId} {size : Nat} {v : Value} {xs : List Value} (h : w.ownsRow base e size v n xs) : ∃ a cap, v = .slice a n cap ∧ n ≤ cap ∧ cap ≤ maxLen ∧ (0 < n → ∃ g, a = some ⟨g, 0, none⟩) := by
  rcases h.2 with ⟨rfl, rfl⟩ | ⟨g, cap, _, rfl, _, _, h1, h2, _⟩
  · exact ⟨none, 0, rfl, by omega, by omega, fun h => by omega⟩
  · exact ⟨_, cap, rfl, h1, h2, fun _ => ⟨g, rfl⟩⟩
theorem own_ge {w : World} {base m : Nat} {e : TypeId} {size : Nat} {v : Value} {xs : List Value} (h : w.ownsRow base e size v m xs) {g : Nat} (hg : v.ownBlock = some g) : base ≤ g ∧ g < w.heap.size := h.lt g hg
theorem own_mono {w : World} {base base' m : Nat} {e : TypeId} {size : Nat} {v : Value} {xs : List Value} (h : w.ownsRow base e size v m xs) (hb : base' ≤ base) : w.ownsRow base' e size v m xs := by
  rcases h with ⟨hl, h0 | ⟨g, cap, cur, hv, hbg, rest⟩⟩
  · exact ⟨hl, .inl h0⟩
  · exact ⟨hl, .inr ⟨g, cap, cur, hv, by omega, rest⟩⟩
theorem own_apart {w : World} {base base' n n' : Nat} {e e' : TypeId} {size size' : Nat} {v v' : Value} {xs xs' : List Value} (h : w.ownsRow base e size v n xs) (h' : w.ownsRow base' e' size' v' n' xs') (hne : e ≠ e') {g : Nat} (hg : v.ownBlock = some g) : v'.ownBlock ≠ some g := by
  intro hg'
  rcases h.2 with ⟨rfl, _⟩ | ⟨g1, _, _, rfl, _, hh, _⟩
  · cases hg
  · rcases h'.2 with ⟨rfl, _⟩ | ⟨g2, _, _, rfl, _, hh', _⟩
    · cases hg'
    · cases hg
      cases hg'
      rw [hh] at hh'
      injection hh' with hh'
      injection hh' with _ ht
      exact hne ht
theorem own_other {w : World} {base n : Nat} {e e' : TypeId} {size : Nat} {v : Value} {xs : List Value} (h : w.ownsRow base e size v n xs) {B : Nat} {cs : Array Value} {m : Nat × Nat} (hB : w.heap[B]? = some (.cells cs e' m)) (hne : e ≠ e') : v.ownBlock ≠ some B := by
  intro hg
  rcases h.2 with ⟨rfl, _⟩ | ⟨g1, _, _, rfl, _, hh, _⟩
  · cases hg
  · cases hg
    rw [hh] at hB
    injection hB with hB
    injection hB with _ ht
    exact hne ht
theorem own_set {w : World} {base n cap g : Nat} {e : TypeId} {size : Nat} {xs : List Value} (h : w.ownsRow base e size (.slice (some ⟨g, 0, none⟩) n cap) n xs) (j : Nat) (u : Value) : (w.setCell ⟨g, j, none⟩ u).ownsRow base e size (.slice (some ⟨g, 0, none⟩) n cap) n (xs.set j u) := by
  obtain ⟨hl, h2⟩ := h
  rcases h2 with ⟨h0, _⟩ | ⟨g', cap', cur, hv, hb, hg, h1, h2, h3, h4⟩
  · cases h0
  · cases hv
    refine ⟨by simpa using hl, .inr ⟨_, _, cur.setIfInBounds j u, rfl, hb, ?_, h1, h2, by simpa using h3, ?_⟩⟩
    · simp [World.setCell, Array.getElem?_modify, hg]
    · rw [Array.toList_setIfInBounds, List.take_set, h4]
theorem add_at (g o j : Nat) : ((⟨g, o, none⟩ : Addr).add j) = ⟨g, o + j, none⟩ := by unfold Addr.add; split <;> simp_all
theorem own_cell {w : World} {base n cap g : Nat} {e : TypeId} {size : Nat} {xs : List Value} (h : w.ownsRow base e size (.slice (some ⟨g, 0, none⟩) n cap) n xs) {j : Nat} {u : Value} (hj : xs[j]? = some u) : w.cell? ⟨g, j, none⟩ = some u := by
  have := h.cells (g := g) rfl j u hj
  rwa [add_at, Nat.zero_add] at this
theorem own_free {w : World} {base n cap g : Nat} {e : TypeId} {size : Nat} {xs : List Value} (h : w.ownsRow base e size (.slice (some ⟨g, 0, none⟩) n cap) n xs) (j : Nat) : w.frozen? ⟨g, j, none⟩ = false := by
  rcases h.2 with ⟨h0, _⟩ | ⟨g', cap', cur, hv, hb, hg, _⟩
  · cases h0
  · cases hv
    simp [World.frozen?, hg]
theorem own_kp {S : Nat → Prop} {w w' : World} {base n : Nat} {e : TypeId} {size : Nat} {v : Value} {xs : List Value} (h : w.ownsRow base e size v n xs) (hk : Kp S w w') (hS : ∀ g, v.ownBlock = some g → ¬ S g) : w'.ownsRow base e size v n xs := hk.owns h hS
theorem kp_setOne (w : World) (G o : Nat) (v : Value) : Kp (One G) w (w.setCell ⟨G, o, none⟩ v) := Kp.setCell _ _ _ _ fun _ => rfl
theorem own_empty {w : World} {base : Nat} {e : TypeId} {size : Nat} (hb : base ≤ w.heap.size) : (w.alloc (.cells #[] e)).ownsRow base e size (.slice (some ⟨w.heap.size, 0, none⟩) 0 0) 0 [] :=
  ⟨by simp, .inr ⟨_, 0, #[], rfl, hb, heap_alloc_new w _, by omega, by unfold maxLen; omega, by simp, by simp⟩⟩

/-! ### elements of several cells -/
section
variable {α : Type} {f : α → List Value} {s : Nat}
theorem flat_len (hf : ∀ x, (f x).length = s) : ∀ vs : List α, (vs.flatMap f).length = vs.length * s
  | [] => by simp
  | v :: vs => by
    rw [List.flatMap_cons, List.length_append, hf, flat_len hf vs, List.length_cons, Nat.add_mul]
    omega
theorem flat_at (hf : ∀ x, (f x).length = s) : ∀ (vs : List α) (i : Nat) (v : α) (j : Nat) (u : Value), vs[i]? = some v → (f v)[j]? = some u → (vs.flatMap f)[i * s + j]? = some u
  | [], i, v, j, u, h, _ => by simp at h
  | x :: vs, 0, v, j, u, h, hj => by
    simp at h
    subst h
    have := (List.getElem?_eq_some_iff.1 hj).1
    rw [List.flatMap_cons, Nat.zero_mul, Nat.zero_add, List.getElem?_append_left this]
    exact hj
  | x :: vs, i + 1, v, j, u, h, hj => by
    have ih := flat_at hf vs i v j u (by simpa using h) hj
    rw [List.flatMap_cons, List.getElem?_append_right (by rw [hf, Nat.add_mul]; omega), hf, show (i + 1) * s + j - s = i * s + j by rw [Nat.add_mul]; omega]
    exact ih
theorem flat_set (hf : ∀ x, (f x).length = s) : ∀ (vs : List α) (i : Nat) (v v' : α) (j : Nat) (u : Value), vs[i]? = some v → j < s → (f v).set j u = f v' → (vs.flatMap f).set (i * s + j) u = (vs.set i v').flatMap f
  | [], i, v, _, j, u, h, _, _ => by simp at h
  | x :: vs, 0, v, v', j, u, h, hj, hs => by
    simp at h
    subst h
    rw [List.flatMap_cons, Nat.zero_mul, Nat.zero_add, List.set_append_left _ _ (by rw [hf]; exact hj), hs]
    rfl
  | x :: vs, i + 1, v, v', j, u, h, hj, hs => by
    have ih := flat_set hf vs i v v' j u (by simpa using h) hj hs
    rw [List.flatMap_cons, List.set_append_right _ _ (by rw [hf, Nat.add_mul]; omega), hf, show (i + 1) * s + j - s = i * s + j by rw [Nat.add_mul]; omega, ih]
    rfl
theorem own_at (hf : ∀ x, (f x).length = s) {w : World} {base e n : Nat} {A : Option Addr} {cap : Nat} {vs : List α} (h : w.ownsRow base e s (.slice A n cap) n (vs.flatMap f)) {i : Nat} {v : α} (hv : vs[i]? = some v) (hs : 0 < s) :
    ∃ g, A = some ⟨g, 0, none⟩ ∧ base ≤ g ∧ g < w.heap.size ∧ i < n ∧ ∀ j u, (f v)[j]? = some u → w.cell? ⟨g, i * s + j, none⟩ = some u ∧ w.frozen? ⟨g, i * s + j, none⟩ = false := by
  have hl := h.1
  rw [flat_len hf] at hl
  have hi := (List.getElem?_eq_some_iff.1 hv).1
  have hn : vs.length = n := Nat.eq_of_mul_eq_mul_right hs hl
  obtain ⟨a, c, hv', h1, h2, h3⟩ := own_form h
  cases hv'
  obtain ⟨g, rfl⟩ := h3 (by omega)
  have hb := own_ge h (g := g) rfl
  exact ⟨g, rfl, hb.1, hb.2, by omega, fun j u hj => ⟨own_cell h (flat_at hf vs i v j u hv hj), own_free h _⟩⟩
theorem own_count (hf : ∀ x, (f x).length = s) {w : World} {base e n : Nat} {v : Value} {vs : List α} (h : w.ownsRow base e s v n (vs.flatMap f)) (hs : 0 < s) : vs.length = n := by
  have hl := h.1
  rw [flat_len hf] at hl
  exact Nat.eq_of_mul_eq_mul_right hs hl
theorem flat_snoc (vs : List α) (v : α) : (vs ++ [v]).flatMap f = vs.flatMap f ++ f v := by simp
end

/-! ### slices that are read alone -/
/-- A slice of elements of s cells. -/
def Rd {α : Type} (f : α → List Value) (s : Nat) (w : World) (A : Option Addr) (n : Nat) (vs : List α) : Prop :=
  vs.length = n ∧ ∀ i v, vs[i]? = some v → ∃ b o, A = some ⟨b, o, none⟩ ∧ b < w.heap.size ∧ ∀ j u, (f v)[j]? = some u → w.cell? ⟨b, o + i * s + j, none⟩ = some u
section
variable {α : Type} {f : α → List Value} {s : Nat} {w w' : World} {A : Option Addr} {n : Nat} {vs : List α}
theorem Rd.kp {S : Nat → Prop} (h : Rd f s w A n vs) (hk : Kp S w w') (hS : ∀ b o, A = some ⟨b, o, none⟩ → b < w.heap.size → ¬ S b) : Rd f s w' A n vs :=
  ⟨h.1, fun i v hv => by
    obtain ⟨b, o, hA, hb, hc⟩ := h.2 i v hv
    exact ⟨b, o, hA, Nat.lt_of_lt_of_le hb hk.size, fun j u hj => hk.cell (hc j u hj) (hS b o hA hb)⟩⟩
theorem Rd.no (h : Rd f s w A n vs) (hk : Kp No w w') : Rd f s w' A n vs := h.kp hk fun _ _ _ _ h => h
theorem Rd.nil (w : World) (A : Option Addr) : Rd f s w A 0 [] := ⟨rfl, fun i v h => by simp at h⟩
theorem Rd.of_own (hf : ∀ x, (f x).length = s) (hs : 0 < s) {base e cap : Nat} (h : w.ownsRow base e s (.slice A n cap) n (vs.flatMap f)) : Rd f s w A n vs :=
  ⟨own_count hf h hs, fun i v hv => by
    obtain ⟨g, rfl, _, h2, _, hc⟩ := own_at hf h hv hs
    exact ⟨g, 0, rfl, h2, fun j u hj => by rw [Nat.zero_add]; exact (hc j u hj).1⟩⟩
end
/-- A slice of integers. -/
def RdI (k : IntKind) (w : World) (A : Option Addr) (n : Nat) (xs : List Int) : Prop :=
  xs.length = n ∧ ∀ i x, xs[i]? = some x → ∃ b o, A = some ⟨b, o, none⟩ ∧ b < w.heap.size ∧ w.cell? ⟨b, o + i, none⟩ = some (.int k x)
section
variable {k : IntKind} {w w' : World} {A : Option Addr} {n : Nat} {xs : List Int}
theorem RdI.kp {S : Nat → Prop} (h : RdI k w A n xs) (hk : Kp S w w') (hS : ∀ b o, A = some ⟨b, o, none⟩ → b < w.heap.size → ¬ S b) : RdI k w' A n xs :=
  ⟨h.1, fun i v hv => by
    obtain ⟨b, o, hA, hb, hc⟩ := h.2 i v hv
    exact ⟨b, o, hA, Nat.lt_of_lt_of_le hb hk.size, hk.cell hc (hS b o hA hb)⟩⟩
theorem RdI.no (h : RdI k w A n xs) (hk : Kp No w w') : RdI k w' A n xs := h.kp hk fun _ _ _ _ h => h
theorem RdI.nil (w : World) (A : Option Addr) : RdI k w A 0 [] := ⟨rfl, fun i v h => by simp at h⟩
theorem RdI.of_own {base e cap : Nat} (h : w.ownsRow base e 1 (.slice A n cap) n (xs.map (Value.int k))) : RdI k w A n xs := by
  have hl := h.1
  simp at hl
  refine ⟨hl, fun i x hx => ?_⟩
  have hi := (List.getElem?_eq_some_iff.1 hx).1
  obtain ⟨a, c, hv', h1, h2, h3⟩ := own_form h
  cases hv'
  obtain ⟨g, rfl⟩ := h3 (by omega)
  exact ⟨g, 0, rfl, (own_ge h (g := g) rfl).2, by rw [Nat.zero_add]; exact own_cell h (by rw [List.getElem?_map, hx]; rfl)⟩
end
/-- A slice of bools. -/
def RdB (w : World) (A : Option Addr) (n : Nat) (xs : List Bool) : Prop :=
  xs.length = n ∧ ∀ i x, xs[i]? = some x → ∃ b o, A = some ⟨b, o, none⟩ ∧ b < w.heap.size ∧ w.cell? ⟨b, o + i, none⟩ = some (.bool x)
theorem RdB.kp {S : Nat → Prop} {w w' : World} {A : Option Addr} {n : Nat} {xs : List Bool} (h : RdB w A n xs) (hk : Kp S w w') (hS : ∀ b o, A = some ⟨b, o, none⟩ → b < w.heap.size → ¬ S b) : RdB w' A n xs :=
  ⟨h.1, fun i v hv => by
    obtain ⟨b, o, hA, hb, hc⟩ := h.2 i v hv
    exact ⟨b, o, hA, Nat.lt_of_lt_of_le hb hk.size, hk.cell hc (hS b o hA hb)⟩⟩
theorem RdB.no {w w' : World} {A : Option Addr} {n : Nat} {xs : List Bool} (h : RdB w A n xs) (hk : Kp No w w') : RdB w' A n xs := h.kp hk fun _ _ _ _ h => h
end Go.Kq

namespace Go.Proofs.YtakgcnjpmpcekaaGreat
open Go.RowKit Go.Kq

def Fc.cells (c : Fc) : List Value := [.int .i64 c.w, .int .i64 c.k]
def Fc.val (c : Fc) : Value := .agg #[.int .i64 c.w, .int .i64 c.k]
def i64V (x : Int) : Value := .int .i64 x
abbrev RdF (w : World) (A : Option Addr) (n : Nat) (l : List Fc) : Prop := Rd Fc.cells 2 w A n l
theorem any_take_succ {α : Type} (p : α → Bool) (l : List α) (k : Nat) (v : α) (h : l[k]? = some v) : (l.take (k + 1)).any p = ((l.take k).any p || p v) := by
  rw [List.take_add_one, h]
  simp
def firstI {α : Type} (p : α → Bool) : List α → Nat
  | [] => 0
  | a :: l => if p a then 0 else firstI p l + 1
theorem firstI_at {α : Type} {p : α → Bool} : ∀ {l : List α} {k : Nat} {v : α}, (l.take k).any p = false → l[k]? = some v → p v = true → firstI p l = k
  | [], _, _, _, h, _ => by simp at h
  | a :: l, 0, v, _, h, hp => by
    simp at h
    subst h
    simp [firstI, hp]
  | a :: l, k + 1, v, hn, h, hp => by
    simp only [List.take_succ_cons, List.any_cons, Bool.or_eq_false_iff] at hn
    simp only [firstI, hn.1]
    rw [firstI_at hn.2 (by simpa using h) hp]
    rfl
theorem firstI_none {α : Type} {p : α → Bool} : ∀ {l : List α}, l.any p = false → firstI p l = l.length
  | [], _ => rfl
  | a :: l, h => by
    simp only [List.any_cons, Bool.or_eq_false_iff] at h
    simp only [firstI, h.1, firstI_none h.2]
    rfl
theorem firstI_some {α : Type} {p : α → Bool} : ∀ {l : List α}, l.any p = true → firstI p l < l.length
  | [], h => by simp at h
  | a :: l, h => by
    simp only [firstI]
    cases ha : p a
    · have := firstI_some (p := p) (l := l) (by simpa [ha] using h)
      simp
      omega
    · simp
def ixI {α : Type} (p : α → Bool) (l : List α) : Int := if firstI p l < l.length then (firstI p l : Nat) else -1
theorem ixI_at {α : Type} {p : α → Bool} {l : List α} {k : Nat} {v : α} (h : (l.take k).any p = false) (hv : l[k]? = some v) (hp : p v = true) : ixI p l = (k : Nat) := by
  have := firstI_at h hv hp
  unfold ixI
  rw [this, if_pos (List.getElem?_eq_some_iff.1 hv).1]
theorem ixI_none {α : Type} {p : α → Bool} {l : List α} (h : l.any p = false) : ixI p l = -1 := by
  unfold ixI
  rw [firstI_none h, if_neg (by omega)]
theorem ixI_any {α : Type} (p : α → Bool) (l : List α) : decide (0 ≤ ixI p l) = l.any p := by
  unfold ixI
  cases h : l.any p
  · rw [firstI_none h, if_neg (by omega)]
    rfl
  · rw [if_pos (firstI_some h), decide_eq_true_eq]
    omega
theorem outside_any (n a b : Int) (w : World) : Calls Tryz.prog 17 #[.int .i64 n, .int .i64 a, .int .i64 b] w fun e w' => e = .returned (.bool (oB n a b)) ∧ w' = w := by
  unfold oB
  go_enter Tryz.func17, Tryz.ntmps17
  go_wp2
  all_goals
    go_ret
    refine ⟨ret_bool ?_, rfl⟩
    first | (simp [*]; done) | (simp; omega)
theorem from_any (n a b : Int) (w : World) : Calls Tryz.prog 20 #[.int .i64 n, .int .i64 a, .int .i64 b] w fun e w' => e = .returned (.bool (!oB n a b)) ∧ w' = w := by
  unfold oB
  by_cases h1 : a ≤ n
  · by_cases h2 : n ≤ b
    · go_enter Tryz.func20, Tryz.ntmps20
      go_wp2
      go_ret
      first | exact ⟨ret_bool (by simp [*]), rfl⟩ | exact ⟨ret_bool (by simp; omega), rfl⟩
    · go_enter Tryz.func20, Tryz.ntmps20
      go_wp2
      go_ret
      first | exact ⟨ret_bool (by simp [*]), rfl⟩ | exact ⟨ret_bool (by simp; omega), rfl⟩
  · go_enter Tryz.func20, Tryz.ntmps20
    go_wp2
    go_ret
    first | exact ⟨ret_bool (by simp [*]), rfl⟩ | exact ⟨ret_bool (by simp; omega), rfl⟩
theorem badF_any (f : Fc) (w : World) : Calls Tryz.prog 48 #[f.val] w fun e w' => e = .returned (.bool (badF f)) ∧ Kp No w w' := by
  have H1 := Lib.hid (fun w0 => outside_any f.w 1 10000000 w0)
  unfold badF
  generalize oB f.w 1 10000000 = q1 at *
  unfold Fc.val
  have hk0 : Kp No w (w.alloc (.cells #[.int .i64 f.w, .int .i64 f.k] 57)) := Kp.alloc _ _ _
  by_cases h1 : f.k < 1
  · have d1 : decide (f.k < 1) = true := by simp [h1]
    cases q1
    all_goals
      go_enter Tryz.func48, Tryz.ntmps48
      go_wp2_with fail
      with_reducible refine (H1.out _).mono ?_
      rintro e w1 ⟨rfl, hw⟩
      subst hw
      go_wp2_with fail
      go_ret
      exact ⟨ret_bool (by simp [d1]), hk0⟩
  · by_cases h2 : 4 < f.k
    · have d1 : decide (4 < f.k) = true := by simp [h2]
      cases q1
      all_goals
        go_enter Tryz.func48, Tryz.ntmps48
        go_wp2_with fail
        with_reducible refine (H1.out _).mono ?_
        rintro e w1 ⟨rfl, hw⟩
        subst hw
        go_wp2_with fail
        go_ret
        exact ⟨ret_bool (by simp [d1]), hk0⟩
    · have d1 : decide (4 < f.k) = false := by simp; omega
      have d2 : decide (f.k < 1) = false := by simp; omega
      cases q1
      all_goals
        go_enter Tryz.func48, Tryz.ntmps48
        go_wp2_with fail
        with_reducible refine (H1.out _).mono ?_
        rintro e w1 ⟨rfl, hw⟩
        subst hw
        go_wp2_with fail
        go_ret
        exact ⟨ret_bool (by simp [d1, d2]), hk0⟩
theorem filB_any (x : Int) (w : World) : Calls Tryz.prog 19 #[i64V x] w fun e w' => e = .returned (.bool (oB x 1 1000000)) ∧ Kp No w w' := by
  unfold i64V
  go_enter Tryz.func19, Tryz.ntmps19
  go_wp2_with fail
  with_reducible refine (outside_any _ _ _ _).mono ?_
  rintro e w1 ⟨rfl, rfl⟩
  go_wp2_with fail
  go_ret
  exact ⟨rfl, Kp.refl _ _⟩
theorem fetB_any (x W : Int) (g : Nat) (w : World) (hW : w.cell? ⟨g, 0, none⟩ = some (.int .i64 W)) : Calls Tryz.prog 22 #[i64V x, .pointer (some ⟨g, 0, none⟩)] w fun e w' => e = .returned (.bool (oB x 0 W)) ∧ Kp No w w' := by
  unfold i64V
  go_enter Tryz.func22, Tryz.ntmps22
  go_wp2_with fail
  with_reducible refine (outside_any _ _ _ _).mono ?_
  rintro e w1 ⟨rfl, rfl⟩
  go_wp2_with fail
  go_ret
  exact ⟨rfl, Kp.refl _ _⟩
def plaB (m i : Int) : Bool := decide (i < 0) || (decide (0 ≤ m) && decide (m ≤ i))
theorem plaB_any (x m : Int) (g : Nat) (w : World) (hW : w.cell? ⟨g, 0, none⟩ = some (.int .i64 m)) : Calls Tryz.prog 53 #[i64V x, .pointer (some ⟨g, 0, none⟩)] w fun e w' => e = .returned (.bool (plaB m x)) ∧ Kp No w w' := by
  unfold i64V plaB
  by_cases h1 : x < 0
  · go_enter Tryz.func53, Tryz.ntmps53
    go_wp2
    go_ret
    exact ⟨ret_bool (by simp [h1]), Kp.refl _ _⟩
  · by_cases h2 : 0 ≤ m
    · by_cases h3 : m ≤ x
      · go_enter Tryz.func53, Tryz.ntmps53
        go_wp2
        go_ret
        exact ⟨ret_bool (by simp), Kp.refl _ _⟩
      · go_enter Tryz.func53, Tryz.ntmps53
        go_wp2
        go_ret
        exact ⟨ret_bool (by simp [h1]; omega), Kp.refl _ _⟩
    · go_enter Tryz.func53, Tryz.ntmps53
      go_wp2
      go_ret
      exact ⟨ret_bool (by simp [h1]; omega), Kp.refl _ _⟩
end Go.Proofs.YtakgcnjpmpcekaaGreat
