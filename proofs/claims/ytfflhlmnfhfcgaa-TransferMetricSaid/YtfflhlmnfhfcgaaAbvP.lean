/- Chapter 33: what is above 0, in order: plain. -/
import Derived.Test.YtfflhlmnfhfcgaaRfPl
import Derived.Test.YtfflhlmnfhfcgaaCmp
namespace Go.Proofs.Ytfflhlmnfhfcgaa
open Go.RowKit Go.Kq

def klt (a b : Key) : Prop := a.1 < b.1 ∨ (a.1 = b.1 ∧ (a.2.1 < b.2.1 ∨ (a.2.1 = b.2.1 ∧ a.2.2 < b.2.2)))
instance (a b : Key) : Decidable (klt a b) := by unfold klt; infer_instance
theorem cmpK_neg (a b : Key) : cmpK a b < 0 ↔ klt a b := by
  unfold cmpK klt
  simp only [orL]
  unfold cmpI
  (repeat' split) <;> omega
theorem klt_irr (a : Key) : ¬ klt a a := by unfold klt; omega
theorem klt_trans {a b c : Key} (h1 : klt a b) (h2 : klt b c) : klt a c := by unfold klt at *; omega
theorem klt_total {a b : Key} (h1 : ¬ klt a b) (h2 : ¬ klt b a) : a = b := by
  obtain ⟨a1, a2, a3⟩ := a
  obtain ⟨b1, b2, b3⟩ := b
  unfold klt at h1 h2
  simp only at h1 h2
  rw [show a1 = b1 by omega, show a2 = b2 by omega, show a3 = b3 by omega]
def cellK (g : Key → Int) (k : Key) : Vc := ⟨k.1, k.2.1, k.2.2, g k⟩
theorem cellK_key (g : Key → Int) (k : Key) : (cellK g k).key = k := rfl
/-- What is above 0 of keys in order. -/
def abv (g : Key → Int) (ks : List Key) : List Vc := (ks.filter fun k => decide (0 < g k)).map (cellK g)
theorem abv_snoc (g : Key → Int) (ks : List Key) (k : Key) : abv g (ks ++ [k]) = abv g ks ++ if 0 < g k then [cellK g k] else [] := by
  unfold abv
  rw [List.filter_append, List.map_append]
  by_cases h : 0 < g k <;> simp [h]
theorem srt_pair : ∀ l, Srt l → l.Pairwise Bef
  | [], _ => List.Pairwise.nil
  | _ :: l, h => List.Pairwise.cons h.1 (srt_pair l h.2)
theorem bef_irr (a : Vc) : ¬ Bef a a := by unfold Bef; omega
theorem bef_ext {l m : List Vc} (hl : l.Pairwise Bef) (hm : m.Pairwise Bef) (h : ∀ v, v ∈ l ↔ v ∈ m) : l = m := by
  have nd : ∀ {l : List Vc}, l.Pairwise Bef → l.Nodup := fun {l} h => show l.Pairwise (fun a b => a ≠ b) from h.imp fun {a b} (h : Bef a b) (e : a = b) => bef_irr a (by rw [← e] at h; exact h)
  refine List.Perm.eq_of_pairwise (le := Bef) ?_ hl hm ((List.perm_ext_iff_of_nodup (nd hl) (nd hm)).2 h)
  intro a b _ _ h1 h2
  exact absurd (bef_trans h1 h2) (bef_irr a)
theorem bal_pos_mem {E : List (Key × Int)} {k : Key} (h : 0 < bal E k) : k ∈ keys E := by
  refine Classical.byContradiction fun hn => ?_
  have := (get1_none_iff E k).2 hn
  simp [bal, this] at h
theorem abv_eq {xs ys : List Vc} {ks : List Key} (hp : ks.Perm (keys (btw xs ys))) (hs : ks.Pairwise klt) : abv (bal (btw xs ys)) ks = (dif xs ys).filter fun v => decide (0 < v.q) := by
  have hS : Srt (dif xs ys) := addL_srt _ _ (addL_srt _ _ trivial)
  refine bef_ext ?_ ((srt_pair _ hS).filter _) fun v => ?_
  · unfold abv
    refine List.pairwise_map.2 ((hs.filter _).imp fun {a b} h => ?_)
    exact h
  · unfold abv
    rw [List.mem_map, List.mem_filter]
    constructor
    · rintro ⟨k, hk, rfl⟩
      rw [List.mem_filter] at hk
      have hk2 : 0 < bal (btw xs ys) k := of_decide_eq_true hk.2
      have h1 : k ∈ keys (asE (dif xs ys)) := bal_pos_mem (by rw [bal_dif]; exact hk2)
      rw [keys_asE] at h1
      obtain ⟨u, hu, rfl⟩ := List.mem_map.1 h1
      have hq := bal_at _ hS u hu
      rw [bal_dif] at hq
      have : cellK (bal (btw xs ys)) u.key = u := by
        unfold cellK
        rw [hq]
        rfl
      rw [this]
      exact ⟨hu, decide_eq_true (by rw [← hq]; exact hk2)⟩
    · rintro ⟨hu, hq⟩
      have hq' : 0 < v.q := of_decide_eq_true hq
      have he := bal_at _ hS v hu
      rw [bal_dif] at he
      refine ⟨v.key, List.mem_filter.2 ⟨?_, decide_eq_true (by rw [he]; exact hq')⟩, ?_⟩
      · exact hp.mem_iff.2 (bal_pos_mem (by rw [he]; exact hq'))
      · unfold cellK
        rw [he]
        rfl
end Go.Proofs.Ytfflhlmnfhfcgaa
