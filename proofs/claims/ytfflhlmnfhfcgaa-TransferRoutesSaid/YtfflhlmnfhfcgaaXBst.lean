/- Chapter 33: the walk of 'best'. -/
import Derived.Test.YtfflhlmnfhfcgaaXTry
namespace Go.Proofs.Ytfflhlmnfhfcgaa
open Go.RowKit Go.Kq

theorem rdv_nil (w : World) (A : Option Addr) : RdV w A 0 [] := ⟨rfl, fun i v h => by simp at h⟩
theorem four (w : World) (o1 o2 o3 o4 : Obj) : ((((w.alloc o1).alloc o2).alloc o3).alloc o4).heap[w.heap.size]? = some o1 ∧ ((((w.alloc o1).alloc o2).alloc o3).alloc o4).heap[w.heap.size + 1]? = some o2 ∧ ((((w.alloc o1).alloc o2).alloc o3).alloc o4).heap[w.heap.size + 1 + 1]? = some o3 ∧
    ((((w.alloc o1).alloc o2).alloc o3).alloc o4).heap[w.heap.size + 1 + 1 + 1]? = some o4 ∧ Kp No w ((((w.alloc o1).alloc o2).alloc o3).alloc o4) := by
  refine ⟨?_, ?_, ?_, ?_, ((Kp.alloc _ _ _).tr (Kp.alloc _ _ _)).tr ((Kp.alloc _ _ _).tr (Kp.alloc _ _ _))⟩
  · rw [Below.heap_alloc _ _ _ (by simp <;> omega), Below.heap_alloc _ _ _ (by simp <;> omega), Below.heap_alloc _ _ _ (by simp <;> omega), heap_alloc_new]
  · rw [Below.heap_alloc _ _ _ (by simp <;> omega), Below.heap_alloc _ _ _ (by simp <;> omega)]
    have := heap_alloc_new (w.alloc o1) o2
    simpa using this
  · rw [Below.heap_alloc _ _ _ (by simp)]
    have := heap_alloc_new ((w.alloc o1).alloc o2) o3
    simpa using this
  · have := heap_alloc_new (((w.alloc o1).alloc o2).alloc o3) o4
    simpa using this
set_option maxHeartbeats 4000000 in
theorem best_any (A Y : Option Addr) (n m ca cb : Nat) (xs ys : List Vc) (most : Int) (U : List Key) (Cf : List Nat → Int) (w : World) (hx : RdV w A n xs) (hy : RdV w Y m ys) (hn : n ≤ 24) (hm : m ≤ 14) (hmo : 0 ≤ most ∧ most ≤ 14) (sx : Sane xs)
    (hc : Costs (bal (btw xs [])) ys U Cf) (hU : ∀ k ∈ keys (btw xs []), k ∈ U) :
    Calls Try.prog 31 #[.slice A n ca, .slice Y m cb, .int .i64 most] w fun e w' => ∃ v out c, e = .returned (.tuple #[v, .int .i64 c]) ∧ (subsAt m most.toNat m [] 0).foldl (better Cf) ([], Cf []) = (out, c) ∧ w'.ownsRow w.heap.size 3 1 v out.length (out.map natV) ∧ out.length ≤ 14 ∧ Kp No w w' := by
  have hxl := hx.1
  have hyl := hy.1
  go_enter Try.func31, Try.ntmps31
  go_wp2_with fail
  refine (between_any A none n 0 ca 0 xs [] _ (hx.no ((Kp.alloc _ _ _).tr (Kp.alloc _ _ _))) (rdv_nil _ _) (by omega) (by omega) sx (fun v h => by simp at h)).mono ?_
  rintro e w1 ⟨b, rfl, hb, hmap, hk1⟩
  go_wp2_with fail
  have hcb : ∀ k, -80000 ≤ bal (btw xs []) k ∧ bal (btw xs []) k ≤ 80000 := fun k => hc.bd [] k (by simp)
  have hlen : (btw xs []).length ≤ 1000 := by
    have h1 := nodup_len (keys (btw xs [])) U hmap.nodup hU
    have h2 := hc.few
    simp [keys] at h1
    omega
  refine (cost_any b (btw xs []) _ (hmap.alloc _) hlen (fun k => by have := hcb k; omega)).mono ?_
  rintro e w2 ⟨⟨c0, rfl, hIs⟩, hk2⟩
  have hc0 := hc.cost (btw xs []) [] c0 hmap.nodup (fun k => rfl) hU hIs
  have HC0 := Lib.hid hc0
  clear hc0 hIs
  obtain ⟨a1, a2, a3, a4, hk3⟩ := four w2 (.cells #[.int .i64 c0] 2) (.cells #[.slice none 0 0] 23) (.cells #[.slice none 0 0] 23) (.cells #[.nilFunc] 88)
  have hst := fun (w : World) (a : Addr) (f : Fn) ts cs => run_store Try.prog w a (.func f ts cs) .plain rfl
  have b4 := cell_of_one a4
  have f4 := free_of_one a4
  have A1 := Lib.hid a1
  have A2 := Lib.hid a2
  have A3 := Lib.hid a3
  have A4 := Lib.hid a4
  clear a1 a2 a3 a4
  go_wp2_with fail
  obtain ⟨q1, q2, q3, q4, hk4⟩ := four w2 (.cells #[.int .i64 c0] 2) (.cells #[.slice none 0 0] 23) (.cells #[.slice none 0 0] 23) (.cells #[.func (.func 51) #[] #[.pointer (some ⟨w.heap.size, 0, none⟩), .pointer (some ⟨w2.heap.size + 1, 0, none⟩), .pointer (some ⟨w.heap.size + 1, 0, none⟩), .pointer (some ⟨w1.heap.size, 0, none⟩), .pointer (some ⟨w2.heap.size, 0, none⟩), .pointer (some ⟨w2.heap.size + 1 + 1, 0, none⟩), .pointer (some ⟨w2.heap.size + 1 + 1 + 1, 0, none⟩)]] 88)
  clear b4 f4 A1 A2 A3 A4 hk3 hst
  generalize ((((w2.alloc (.cells #[.int .i64 c0] 2)).alloc (.cells #[.slice none 0 0] 23)).alloc (.cells #[.slice none 0 0] 23)).alloc (.cells #[.func (.func 51) #[] #[.pointer (some ⟨w.heap.size, 0, none⟩), .pointer (some ⟨w2.heap.size + 1, 0, none⟩), .pointer (some ⟨w.heap.size + 1, 0, none⟩), .pointer (some ⟨w1.heap.size, 0, none⟩), .pointer (some ⟨w2.heap.size, 0, none⟩), .pointer (some ⟨w2.heap.size + 1 + 1, 0, none⟩), .pointer (some ⟨w2.heap.size + 1 + 1 + 1, 0, none⟩)]] 88)) = W at q1 q2 q3 q4 hk4 ⊢
  have hkD : Kp No (w1.alloc (.cells #[.map (some b)] 64)) W := hk2.tr hk4
  have hkA := hk1.tr ((Kp.alloc No w1 (.cells #[.map (some b)] 64)).tr hkD)
  have hk0 : Kp No w W := ((Kp.alloc _ _ _).tr (Kp.alloc _ _ _)).tr hkA
  have hkM : Kp No w1 W := (Kp.alloc No w1 _).tr hkD
  have hb1 := hmap.lt
  have hz2 := hk2.size
  obtain ⟨C, hC⟩ : ∃ C, w2.heap.size = C + 1 := ⟨w2.heap.size - 1, by simp at hz2; omega⟩
  rw [hC] at q1 q2 q3 q4 hz2 ⊢
  simp at hb hz2
  have hsz := (Array.getElem?_eq_some_iff.1 q4).1
  have hyW : RdV W Y m ys := hy.no hk0
  have hS : St w.heap.size b w1.heap.size C m cb Y ys most [] (btw xs []) c0 [] W := by
    refine ⟨by omega, hkA.heap ?_ (fun h => h), hkA.heap ?_ (fun h => h), hkD.heap (heap_alloc_new _ _) (fun h => h), q1, ⟨.slice none 0 0, .slice none 0 0, q2, ⟨rfl, .inl ⟨rfl, rfl⟩⟩, q3, ⟨rfl, .inl ⟨rfl, rfl⟩⟩, fun g hg => by cases hg⟩, q4, hmap.kept (hkM.toGrownNo none) (by simp), hyW, fun hne bA oA hY => ?_⟩
    · rw [Below.heap_alloc _ _ _ (by simp), heap_alloc_new]
    · have := heap_alloc_new (w.alloc (.cells #[.slice Y m cb] 22)) (.cells #[.int .i64 most] 3)
      simpa using this
    · obtain ⟨v, hv⟩ : ∃ v, ys[0]? = some v := ⟨_, List.getElem?_eq_getElem (List.length_pos_iff.2 hne)⟩
      obtain ⟨b', o', hA, hlt, _⟩ := hy.2 0 v hv
      rw [hY] at hA
      cases hA
      exact hlt
  refine (try_any w.heap.size b w1.heap.size C m cb Y ys most (bal (btw xs [])) U Cf hc (by omega) ⟨by omega, by omega⟩ hm hyl hmo (m + 1) [] 0 _ W (by omega) (by omega) (by simp) ⟨⟨btw xs [], c0, [], hS, fun k => rfl, hU, rfl, by simp⟩, Kp.refl _ _⟩).mono ?_
  rintro e w5 ⟨rfl, ⟨⟨E, c, out, hS5, hb5, hk5, hf5, ho5⟩, hkp5⟩⟩
  obtain ⟨v5, o5, p5, p6, p7, p8, pd⟩ := hS5.rows
  obtain ⟨a6, c6, rfl, hc8, hc9, _⟩ := own_form p8
  have d7 : w5.cell? ⟨C + 1 + 1 + 1, 0, none⟩ = _ := cell_of_one p7
  have d6 := cell_of_one hS5.lst
  have P5 := Lib.hid p5
  have P7 := Lib.hid p7
  have HF := Lib.hid hf5
  clear p5 p7 hf5 q1 q2 q3 q4
  have hkE : Kp No w w5 := hk0.trans hkp5 (fun k hk h => by unfold Tu at h; have := hk1.size; simp at this; omega)
  have hown := own_mono p8 (base' := w.heap.size) (by have := hk1.size; simp at this; omega)
  have HE := Lib.hid hkE
  have HO := Lib.hid hown
  clear p6 p8 pd hkE hown hkp5 hS5
  go_wp2_with fail
  go_quiet (fail)
  go_wp2_with fail
  refine bodyPost_ret (v := .tuple #[.slice a6 out.length c6, .int .i64 c]) (by simp [results, Try.results31, go_sem]) rfl ⟨_, out, c, rfl, ?_, HO.out, ho5, HE.out.no (Kp.drewN _ _ _)⟩
  have h := HF.out
  rw [subs_stop (by omega)] at h
  rw [← HC0.out]
  exact h.symm
end Go.Proofs.Ytfflhlmnfhfcgaa
