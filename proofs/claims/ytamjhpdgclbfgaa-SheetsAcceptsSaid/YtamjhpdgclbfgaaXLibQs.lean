/- A slice of elements of several cells that begins anywhere in a block of the call's own: appended to. No program in sight. -/
import Derived.Maps.AppendAt
import Derived.ArgAppend
import Derived.Deep.RegionLaw
import Derived.Test.YtamjhpdgclbfgaaXLibRowM
namespace Go.Kq
open Go.RowKit

/-- n elements of s cells each, from an offset on. -/
def Qs (w : World) (base : Nat) (e : TypeId) (s g off cap n : Nat) (xs : List Value) : Prop :=
  ∃ cur, base ≤ g ∧ w.heap[g]? = some (.cells cur e (0, 0)) ∧ xs.length = n * s ∧ n ≤ cap ∧ off + cap * s ≤ cur.size ∧ ∀ j u, xs[j]? = some u → cur[off + j]? = some u
/-- Such a slice, nil too. -/
def Qv (w : World) (base : Nat) (e : TypeId) (s : Nat) (v : Value) (n : Nat) (xs : List Value) : Prop :=
  (v = .slice none 0 0 ∧ n = 0 ∧ xs = []) ∨ ∃ g off cap, v = .slice (some ⟨g, off, none⟩) n cap ∧ Qs w base e s g off cap n xs
theorem Qv.kp {S : Nat → Prop} {w w' : World} {base : Nat} {e : TypeId} {s : Nat} {v : Value} {n : Nat} {xs : List Value} (h : Qv w base e s v n xs) (hk : Kp S w w') (hS : ∀ g, base ≤ g → ¬ S g) : Qv w' base e s v n xs := by
  rcases h with h | ⟨g, off, cap, h1, cur, h2, h3, h4⟩
  · exact .inl h
  · exact .inr ⟨g, off, cap, h1, cur, h2, hk.heap h3 (hS g h2), h4⟩
theorem Qv.form {w : World} {base : Nat} {e : TypeId} {s : Nat} {v : Value} {n : Nat} {xs : List Value} (h : Qv w base e s v n xs) : ∃ a cap, v = .slice a n cap ∧ n ≤ cap := by
  rcases h with ⟨rfl, rfl, _⟩ | ⟨g, off, cap, rfl, cur, _, _, _, h4, _⟩
  · exact ⟨none, 0, rfl, Nat.le_refl _⟩
  · exact ⟨_, cap, rfl, h4⟩
theorem Qs.of_own {w : World} {base n cap g : Nat} {e : TypeId} {s : Nat} {xs : List Value} (h : w.ownsRow base e s (.slice (some ⟨g, 0, none⟩) n cap) n xs) : Qs w base e s g 0 cap n xs := by
  rcases h.2 with ⟨h0, _⟩ | ⟨g', cap', cur, hv, hb, hg, h1, h2, h3, h4⟩
  · cases h0
  · cases hv
    refine ⟨cur, hb, hg, h.1, h1, by omega, fun j u hj => ?_⟩
    rw [← h4, List.getElem?_take] at hj
    split at hj
    · rw [Nat.zero_add]
      simpa using hj
    · cases hj
theorem Qv.of_own {w : World} {base n : Nat} {e : TypeId} {s : Nat} {v : Value} {xs : List Value} (h : w.ownsRow base e s v n xs) : Qv w base e s v n xs := by
  rcases h.2 with ⟨h0, h1⟩ | ⟨g', cap', cur, rfl, _⟩
  · have hl := h.1
    rw [h1, Nat.zero_mul] at hl
    exact .inl ⟨h0, h1, List.length_eq_zero_iff.1 hl⟩
  · exact .inr ⟨g', 0, cap', rfl, Qs.of_own h⟩
/-- The rest of a row behind its first k elements. -/
theorem Qs.drop {w : World} {base g off cap n k : Nat} {e : TypeId} {s : Nat} {xs : List Value} (h : Qs w base e s g off cap n xs) (hk : k ≤ n) : Qs w base e s g (off + k * s) (cap - k) (n - k) (xs.drop (k * s)) := by
  obtain ⟨cur, h1, h2, h3, h4, h5, h6⟩ := h
  have e1 : (cap - k) * s = cap * s - k * s := Nat.sub_mul _ _ _
  have e2 : (n - k) * s = n * s - k * s := Nat.sub_mul _ _ _
  have e3 : k * s ≤ cap * s := Nat.mul_le_mul_right _ (by omega)
  refine ⟨cur, h1, h2, by rw [List.length_drop]; omega, by omega, by omega, fun j u hj => ?_⟩
  rw [List.getElem?_drop] at hj
  rw [Nat.add_assoc]
  exact h6 _ u hj
theorem Qs.none {w : World} {base g off cap n : Nat} {e : TypeId} {s : Nat} {xs : List Value} (h : Qs w base e s g off cap n xs) : Qs w base e s g off 0 0 [] := by
  obtain ⟨cur, h1, h2, h3, h4, h5, h6⟩ := h
  exact ⟨cur, h1, h2, by simp, by omega, by simp; omega, fun j u hj => by simp at hj⟩
section
variable {P : Program} (w : World)
end
end Go.Kq
