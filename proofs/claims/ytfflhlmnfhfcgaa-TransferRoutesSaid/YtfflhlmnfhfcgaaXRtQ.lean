/- Chapter 33: Route in plain lists: divisions, the voices of one, the choices for one. -/
import Derived.Test.YtfflhlmnfhfcgaaXLst
import Derived.Test.YtfflhlmnfhfcgaaXRtG
namespace Go.Proofs.Ytfflhlmnfhfcgaa
open Go.RowKit Go.Kq

def divs (l : List Vc) : List Nat := (List.range 6).filter fun d => l.any fun v => decide (v.d = (d : Int))
/-- The indices of the voices of a division. -/
def pin (l : List Vc) (d : Int) (k : Nat) : List Nat := (List.range k).filter fun i => decide ((l[i]?.map Vc.d) = some d)
def setD (a : Int) (v : Vc) : Vc := ⟨a, v.p, v.f, v.q⟩
def pvo (l : List Vc) (d a : Int) (k : Nat) : List Vc := (sel l (pin l d k)).map (setD a)
theorem pin_yes {l : List Vc} {d : Int} {k : Nat} {v : Vc} (hv : l[k]? = some v) (h : v.d = d) : pin l d (k + 1) = pin l d k ++ [k] := by
  unfold pin
  rw [List.range_succ, List.filter_append]
  simp [hv, h]
theorem pin_no {l : List Vc} {d : Int} {k : Nat} {v : Vc} (hv : l[k]? = some v) (h : ¬ v.d = d) : pin l d (k + 1) = pin l d k := by
  unfold pin
  rw [List.range_succ, List.filter_append]
  simp [hv, h]
theorem pvo_yes {l : List Vc} {d a : Int} {k : Nat} {v : Vc} (hv : l[k]? = some v) (h : v.d = d) : pvo l d a (k + 1) = pvo l d a k ++ [setD a v] := by
  unfold pvo
  rw [pin_yes hv h, sel_snoc l _ k v hv, List.map_append]
  rfl
theorem pvo_no {l : List Vc} {d a : Int} {k : Nat} {v : Vc} (hv : l[k]? = some v) (h : ¬ v.d = d) : pvo l d a (k + 1) = pvo l d a k := by
  unfold pvo
  rw [pin_no hv h]
theorem pin_le (l : List Vc) (d : Int) (k : Nat) : (pin l d k).length ≤ k := by
  have := List.length_filter_le (fun i => decide ((l[i]?.map Vc.d) = some d)) (List.range k)
  rw [List.length_range] at this
  exact this
theorem pin_mem {l : List Vc} {d : Int} {k i : Nat} (h : i ∈ pin l d k) : i < k ∧ ∃ v, l[i]? = some v ∧ v.d = d := by
  unfold pin at h
  simp only [List.mem_filter, List.mem_range, decide_eq_true_eq, Option.map_eq_some_iff] at h
  exact h
theorem sel_full {l : List Vc} : ∀ {L : List Nat}, (∀ i ∈ L, ∃ v, l[i]? = some v) → (sel l L).length = L.length
  | [], _ => rfl
  | i :: L, h => by
    obtain ⟨v, hv⟩ := h i (by simp)
    have := sel_full (l := l) (L := L) fun j hj => h j (by simp [hj])
    unfold sel at this ⊢
    rw [List.filterMap_cons, hv]
    simp [this]
theorem pvo_len (l : List Vc) (d a : Int) (k : Nat) : (pvo l d a k).length = (pin l d k).length := by
  unfold pvo
  rw [List.length_map, sel_full]
  intro i hi
  obtain ⟨_, v, hv, _⟩ := pin_mem hi
  exact ⟨v, hv⟩
theorem bad_iff (v : Vc) : v.bad = false ↔ 0 ≤ v.d ∧ v.d ≤ 5 ∧ -24 ≤ v.p ∧ v.p ≤ 72 ∧ 1 ≤ v.f ∧ v.f ≤ 6 ∧ 1 ≤ v.q ∧ v.q ≤ 100 := by
  simp only [Vc.bad, Bool.or_eq_false_iff, decide_eq_false_iff_not]
  omega
theorem pvo_good {l : List Vc} {d a : Int} {k : Nat} (hl : ∀ v ∈ l, v.bad = false) (ha : 0 ≤ a ∧ a ≤ 5) : ∀ v ∈ pvo l d a k, v.bad = false := by
  intro v hv
  unfold pvo at hv
  obtain ⟨u, hu, rfl⟩ := List.mem_map.1 hv
  have h := (bad_iff u).1 (hl u (sel_mem hu))
  exact (bad_iff _).2 ⟨ha.1, ha.2, h.2.2⟩
theorem any_good {l : List Vc} (h : ∀ v ∈ l, v.bad = false) : l.any Vc.bad = false := by
  simpa using h
theorem pvo_chk {xs ys : List Vc} {d t a : Int} (hx : xs.length ≤ 24) (hy : ys.length ≤ 14) (gx : ∀ v ∈ xs, v.bad = false) (gy : ∀ v ∈ ys, v.bad = false) (ha : 0 ≤ a ∧ a ≤ 5) : chk (pvo xs d a xs.length) (pvo ys t a ys.length) 14 = 0 := by
  have h1 := pin_le xs d xs.length
  have h2 := pin_le ys t ys.length
  refine chk_ok (by rw [pvo_len, pvo_len]; omega) ?_
  rw [any_good (pvo_good gx ha), any_good (pvo_good gy ha)]
  rfl
/-- The choice of one division for another one. -/
def cho (xs ys : List Vc) (f t : Int) : Cc :=
  let r := bestV (pvo xs f f xs.length) (pvo ys t f ys.length) 14
  ⟨t, r.1.map fun i => (pin ys t ys.length).getD i 0, r.2.1⟩
def tos (ys : List Vc) : List Int := -1 :: (divs ys).map Int.ofNat
def chos (xs ys : List Vc) (f : Int) : List Cc := (tos ys).map (cho xs ys f)
def allC (xs ys : List Vc) : List (List Cc) := (divs xs).map fun f : Nat => chos xs ys (f : Int)
theorem divs_mem (l : List Vc) (d : Nat) : d ∈ divs l ↔ d < 6 ∧ ∃ v ∈ l, v.d = (d : Int) := by
  unfold divs
  simp
theorem divs_len (l : List Vc) : (divs l).length ≤ 6 := by
  have := List.length_filter_le (fun d : Nat => l.any fun v => decide (v.d = (d : Int))) (List.range 6)
  rw [List.length_range] at this
  exact this
theorem divs_asc (l : List Vc) : (divs l).Pairwise (· < ·) := by
  unfold divs
  exact List.Pairwise.filter _ List.pairwise_lt_range
theorem tos_len (ys : List Vc) : (tos ys).length ≤ 7 := by
  have := divs_len ys
  unfold tos
  simp
  omega
/-- The divisions, sorted and without what comes twice. -/
theorem divs_uniq {l : List Vc} {m : List Int} (hd : ∀ v ∈ l, 0 ≤ v.d ∧ v.d ≤ 5) (hm : ∀ d, d ∈ m ↔ ∃ v ∈ l, v.d = d) (hp : m.Pairwise (· < ·)) : m = (divs l).map Int.ofNat := by
  have h2 : ((divs l).map Int.ofNat).Pairwise (· < ·) := List.pairwise_map.2 ((divs_asc l).imp fun {a b} h => by show (a : Int) < b; omega)
  refine List.Perm.eq_of_pairwise (le := fun a b : Int => a < b) (fun a b _ _ h1 h2 => by omega) hp h2 ?_
  rw [List.perm_ext_iff_of_nodup (hp.imp fun {a b} h => by omega) (h2.imp fun {a b} h => by omega)]
  intro d
  rw [hm, List.mem_map]
  constructor
  · rintro ⟨v, hv, rfl⟩
    have := hd v hv
    exact ⟨v.d.toNat, (divs_mem l _).2 ⟨by omega, v, hv, by omega⟩, by show ((v.d.toNat : Nat) : Int) = v.d; omega⟩
  · rintro ⟨n, hn, rfl⟩
    obtain ⟨_, v, hv, h⟩ := (divs_mem l n).1 hn
    exact ⟨v, hv, h⟩
end Go.Proofs.Ytfflhlmnfhfcgaa
