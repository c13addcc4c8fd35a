/- Chapter 09: the reference's Spots: the walk. Printed by gen_nth.py. -/
import Derived.Test.YtamjhpdgclbfgaaXNtGM
import Derived.Test.YtamjhpdgclbfgaaXLibHwM
namespace Go.Proofs.Ytamjhpdgclbfgaa
open Go.RowKit Go.Kq

theorem H1.drewN {w3 wr : World} {base g1 M : Nat} {q : List Int} (h : H1 w3 base g1 M q wr) (n : Nat) : H1 w3 base g1 M q (wr.drewN n) := ⟨own_kp h.a (Kp.drewN No _ _) (fun _ _ h => h), h.k.tr (Kp.drewN _ _ _)⟩
theorem H1.put {w3 wr : World} {base g1 M : Nat} {q : List Int} (h : H1 w3 base g1 M q wr) (j : Nat) (x : Int) : H1 w3 base g1 M (q.set j x) (wr.setCell ⟨g1, j, none⟩ (.int .i64 x)) := by
  refine ⟨?_, h.k.tr (kp_setOne wr g1 j _)⟩
  rw [List.map_set]
  exact own_set h.a j _
/-- The heights at which shelves lie, as far as they are reckoned. -/
def YL (K : Int) (ON : List Nat) (H : List Int) (m k : Nat) (ys : List Int) : Prop := ys.length = m ∧ ∀ j, j < m → ys[j]? = some (if j < k then tot K ((ON.zip H).take j) (ON.getD j 0) else 0)
theorem YL.all {K : Int} {ON : List Nat} {H : List Int} {m : Nat} {ys : List Int} (h : YL K ON H m m ys) (hl : H.length = m) : ys = ysR K ON H := by
  refine List.ext_getElem? fun j => ?_
  unfold ysR
  by_cases hj : j < m
  · rw [h.2 j hj, if_pos hj, List.getElem?_map, List.getElem?_range (by omega)]
    rfl
  · rw [List.getElem?_eq_none (by rw [h.1]; omega), List.getElem?_eq_none (by simp; omega)]
theorem YL.step {K : Int} {ON : List Nat} {H : List Int} {m k : Nat} {ys : List Int} {v : Int} (h : YL K ON H m k ys) (hk : k < m) (hv : v = tot K ((ON.zip H).take k) (ON.getD k 0)) : YL K ON H m (k + 1) (ys.set k v) := by
  refine ⟨by rw [List.length_set]; exact h.1, fun j hj => ?_⟩
  by_cases e : k = j
  · subst e
    rw [List.getElem?_set_self (by rw [h.1]; exact hk), if_pos (by omega), hv]
  · rw [List.getElem?_set_ne e, h.2 j hj]
    by_cases hjk : j < k
    · rw [if_pos hjk, if_pos (by omega)]
    · rw [if_neg hjk, if_neg (by omega)]
end Go.Proofs.Ytamjhpdgclbfgaa
