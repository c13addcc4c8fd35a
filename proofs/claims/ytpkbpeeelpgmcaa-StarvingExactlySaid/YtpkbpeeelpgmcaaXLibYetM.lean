/- Chapter 15: the example, walked. · Chapter 15: the library's functions at this dump, as their contracts want them (printed by lay.py). · Chapter 15: slices.SortFunc over all combinations. · A slot that one operation of a region writes, ahead of it. No program in sight. -/
import Derived.Shelf.SlLaysF0
import Derived.Ground.SlsfProg
import Derived.Shelf.SlGeneric
import Derived.Test.YtpkbpeeelpgmcaaProg
import Derived.Shelf.SlSortCmp.WholeK
import Derived.Test.YtpkbpeeelpgmcaaXExPM
import Derived.Test.YtpkbpeeelpgmcaaXRdO
import Derived.Test.YtpkbpeeelpgmcaaXNwBitM
import Derived.Test.YtpkbpeeelpgmcaaXLibReg
namespace Go.Proofs.Ytpkbpeeelpgmcaa
open Go.RowKit Go.Kq Go.Flow

theorem rd_heap {α : Type} {f : α → List Value} {s : Nat} {w : World} {b : Nat} {e : TypeId} {mm : Nat × Nat} {vs : List α} {cs : List Value} (hf : ∀ x, (f x).length = s) (hc : vs.flatMap f = cs) (h : w.heap[b]? = some (.cells cs.toArray e mm)) : Rd f s w (some ⟨b, 0, none⟩) vs.length vs := by
  subst hc
  refine ⟨rfl, fun i v hv => ⟨b, 0, rfl, (Array.getElem?_eq_some_iff.1 h).1, fun j u hj => ?_⟩⟩
  rw [cell_of_row _ _ _ _ _ _ h, Nat.zero_add]
  have := flat_at hf vs i v j u hv hj
  simpa using this
theorem rdi_heap {w : World} {b : Nat} {e : TypeId} {mm : Nat × Nat} {xs : List Int} {cs : List Value} (hc : xs.map (Value.int .i64) = cs) (h : w.heap[b]? = some (.cells cs.toArray e mm)) : RdI .i64 w (some ⟨b, 0, none⟩) xs.length xs := by
  subst hc
  refine ⟨rfl, fun i v hv => ⟨b, 0, rfl, (Array.getElem?_eq_some_iff.1 h).1, ?_⟩⟩
  rw [cell_of_row _ _ _ _ _ _ h, Nat.zero_add]
  simp [hv]
/-- What example hands out. -/
def ExR (w : World) (e : Ending) (w' : World) : Prop := ∃ A B C vs, e = .returned (windV (nz exN) A B C 2 2 3 3) ∧ RdNet w' A B exN ∧ RdSt w' C 3 vs exL ∧ Kp No w w'
theorem heap_up {w : World} {b : Nat} {x : Obj} (h : w.heap[b]? = some x) (o : Obj) : (w.alloc o).heap[b]? = some x := (Kp.alloc No w o).heap h id
set_option maxHeartbeats 4000000 in
set_option maxRecDepth 100000 in
theorem example_any (w : World) : Calls Try.prog 17 #[] w (ExR w) := by
  go_enter Try.func17, Try.ntmps17
  go_wp2_with fail
  obtain ⟨b, hb⟩ : ∃ b, b = w.heap.size := ⟨_, rfl⟩
  have K : Kp No w _ := (((((((Kp.alloc No w (.cells #[.int .i64 3, .slice (some ⟨w.heap.size + 1, 0, none⟩) 2 2, .slice (some ⟨w.heap.size + 1 + 1, 0, none⟩) 2 2, .slice (some ⟨w.heap.size + 1 + 1 + 1 + 1 + 1 + 1, 0, none⟩) 3 3] 28)).tr (Kp.alloc No _ (.cells #[.int .i64 0, .int .i64 1, .int .i64 100, .int .i64 120, .int .i64 0, .int .i64 2, .int .i64 50, .int .i64 60] 77))).tr (Kp.alloc No _ (.cells #[.int .i64 1, .int .i64 2] 3))).tr (Kp.alloc No _ (.cells #[.int .i64 30, .int .i64 40] 2))).tr (Kp.alloc No _ (.cells #[.int .i64 30, .int .i64 30] 2))).tr (Kp.alloc No _ (.cells #[.int .i64 50, .int .i64 10] 2))).tr (Kp.alloc No _ (.cells #[.int .i64 0, .slice (some ⟨w.heap.size + 1 + 1 + 1, 0, none⟩) 2 2, .int .i64 1, .slice (some ⟨w.heap.size + 1 + 1 + 1 + 1, 0, none⟩) 2 2, .int .i64 0, .slice (some ⟨w.heap.size + 1 + 1 + 1 + 1 + 1, 0, none⟩) 2 2] 53)))
  have hn : ∀ (w : World) (o : Obj) (k : Nat), k = w.heap.size → (w.alloc o).heap[k]? = some o := fun w o k h => by subst h; exact World.alloc_heap_new w o
  have h0 := heap_up (heap_up (heap_up (heap_up (heap_up (heap_up (hn w (.cells #[.int .i64 3, .slice (some ⟨w.heap.size + 1, 0, none⟩) 2 2, .slice (some ⟨w.heap.size + 1 + 1, 0, none⟩) 2 2, .slice (some ⟨w.heap.size + 1 + 1 + 1 + 1 + 1 + 1, 0, none⟩) 3 3] 28) w.heap.size rfl) (.cells #[.int .i64 0, .int .i64 1, .int .i64 100, .int .i64 120, .int .i64 0, .int .i64 2, .int .i64 50, .int .i64 60] 77)) (.cells #[.int .i64 1, .int .i64 2] 3)) (.cells #[.int .i64 30, .int .i64 40] 2)) (.cells #[.int .i64 30, .int .i64 30] 2)) (.cells #[.int .i64 50, .int .i64 10] 2)) (.cells #[.int .i64 0, .slice (some ⟨w.heap.size + 1 + 1 + 1, 0, none⟩) 2 2, .int .i64 1, .slice (some ⟨w.heap.size + 1 + 1 + 1 + 1, 0, none⟩) 2 2, .int .i64 0, .slice (some ⟨w.heap.size + 1 + 1 + 1 + 1 + 1, 0, none⟩) 2 2] 53)
  generalize hW : World.alloc _ (.cells #[.int .i64 0, .slice (some ⟨w.heap.size + 1 + 1 + 1, 0, none⟩) 2 2, .int .i64 1, .slice (some ⟨w.heap.size + 1 + 1 + 1 + 1, 0, none⟩) 2 2, .int .i64 0, .slice (some ⟨w.heap.size + 1 + 1 + 1 + 1 + 1, 0, none⟩) 2 2] 53) = W at *
  have h1 : W.heap[w.heap.size + 1]? = some (.cells #[.int .i64 0, .int .i64 1, .int .i64 100, .int .i64 120, .int .i64 0, .int .i64 2, .int .i64 50, .int .i64 60] 77 (0, 0)) := by
    rw [← hW]
    exact heap_up (heap_up (heap_up (heap_up (heap_up (hn _ _ _ (by simp)) _) _) _) _) _
  have h2 : W.heap[w.heap.size + 1 + 1]? = some (.cells #[.int .i64 1, .int .i64 2] 3 (0, 0)) := by
    rw [← hW]
    exact heap_up (heap_up (heap_up (heap_up (hn _ _ _ (by simp)) _) _) _) _
  have h3 : W.heap[w.heap.size + 1 + 1 + 1]? = some (.cells #[.int .i64 30, .int .i64 40] 2 (0, 0)) := by
    rw [← hW]
    exact heap_up (heap_up (heap_up (hn _ _ _ (by simp)) _) _) _
  have h4 : W.heap[w.heap.size + 1 + 1 + 1 + 1]? = some (.cells #[.int .i64 30, .int .i64 30] 2 (0, 0)) := by
    rw [← hW]
    exact heap_up (heap_up (hn _ _ _ (by simp)) _) _
  have h5 : W.heap[w.heap.size + 1 + 1 + 1 + 1 + 1]? = some (.cells #[.int .i64 50, .int .i64 10] 2 (0, 0)) := by
    rw [← hW]
    exact heap_up (hn _ _ _ (by simp)) _
  have h6 : W.heap[w.heap.size + 1 + 1 + 1 + 1 + 1 + 1]? = some (.cells #[.int .i64 0, .slice (some ⟨w.heap.size + 1 + 1 + 1, 0, none⟩) 2 2, .int .i64 1, .slice (some ⟨w.heap.size + 1 + 1 + 1 + 1, 0, none⟩) 2 2, .int .i64 0, .slice (some ⟨w.heap.size + 1 + 1 + 1 + 1 + 1, 0, none⟩) 2 2] 53 (0, 0)) := by
    rw [← hW]
    exact hn _ _ _ (by simp)
  clear hW
  obtain ⟨f0, f1, f2, f3⟩ := four_at h0
  refine bodyPost_ret (v := .agg #[.int .i64 3, .slice (some ⟨w.heap.size + 1, 0, none⟩) 2 2, .slice (some ⟨w.heap.size + 1 + 1, 0, none⟩) 2 2, .slice (some ⟨w.heap.size + 1 + 1 + 1 + 1 + 1 + 1, 0, none⟩) 3 3]) (by simp [results, Try.results17, go_sem, f0, f1, f2, f3]) rfl ?_
  refine ⟨some ⟨w.heap.size + 1, 0, none⟩, some ⟨w.heap.size + 1 + 1, 0, none⟩, some ⟨w.heap.size + 1 + 1 + 1 + 1 + 1 + 1, 0, none⟩, [⟨0, some ⟨w.heap.size + 1 + 1 + 1, 0, none⟩, 2, 2⟩, ⟨1, some ⟨w.heap.size + 1 + 1 + 1 + 1, 0, none⟩, 2, 2⟩, ⟨0, some ⟨w.heap.size + 1 + 1 + 1 + 1 + 1, 0, none⟩, 2, 2⟩], rfl, ⟨?_, ?_⟩, ⟨?_, rfl, ?_⟩, K⟩
  · exact rd_heap (fun _ => rfl) rfl h1
  · exact rdi_heap rfl h2
  · exact rd_heap (fun _ => rfl) rfl h6
  · intro i v s hv hs
    match i, hv, hs with
    | 0, hv, hs => cases hv; cases hs; exact ⟨rfl, rfl, rdi_heap rfl h3⟩
    | 1, hv, hs => cases hv; cases hs; exact ⟨rfl, rfl, rdi_heap rfl h4⟩
    | 2, hv, hs => cases hv; cases hs; exact ⟨rfl, rfl, rdi_heap rfl h5⟩
    | i + 3, hv, hs => simp at hv
end Go.Proofs.Ytpkbpeeelpgmcaa

namespace Go.Proofs.Ytpkbpeeelpgmcaa
open Go.Shelf
def sortC_ren : Go.Shelf.Ren := ⟨fun | 6 => 23 | 15 => 46 | 14 => 45 | 28 => 73 | 29 => 74 | 20 => 65 | 21 => 66 | 22 => 67 | 23 => 68 | 24 => 69 | 25 => 70 | 26 => 71 | 27 => 72 | 46 => 95 | 47 => 96 | 48 => 97 | 49 => 98 | 50 => 99 | 57 => 105 | n => n, fun | 22 => 33 | 24 => 30 | 25 => 62 | 3 => 3 | 39 => 94 | 0 => 0 | 53 => 128 | 55 => 130 | 4 => 4 | 46 => 122 | 45 => 121 | 50 => 96 | 5 => 5 | 9 => 9 | 66 => 147 | 70 => 151 | 76 => 155 | 77 => 156 | n => n, fun | n => n⟩
theorem sortC : Go.Proofs.SlLaysF0.n6 Try.prog sortC_ren := {
  mixed := by kernel_rfl
  f6 := ⟨Try.f23.name, by decide, Try.func23.trans (congrArg some (by kernel_rfl))⟩
  f14 := ⟨Try.f45.name, by decide, Try.func45.trans (congrArg some (by kernel_rfl))⟩
  f15 := Try.func46.trans (congrArg some (by kernel_rfl))
  f20 := ⟨Try.f65.name, by decide, Try.func65.trans (congrArg some (by kernel_rfl))⟩
  f21 := ⟨Try.f66.name, by decide, Try.func66.trans (congrArg some (by kernel_rfl))⟩
  f22 := ⟨Try.f67.name, by decide, Try.func67.trans (congrArg some (by kernel_rfl))⟩
  f23 := ⟨Try.f68.name, by decide, Try.func68.trans (congrArg some (by kernel_rfl))⟩
  f24 := ⟨Try.f69.name, by decide, Try.func69.trans (congrArg some (by kernel_rfl))⟩
  f25 := ⟨Try.f70.name, by decide, Try.func70.trans (congrArg some (by kernel_rfl))⟩
  f26 := ⟨Try.f71.name, by decide, Try.func71.trans (congrArg some (by kernel_rfl))⟩
  f27 := ⟨Try.f72.name, by decide, Try.func72.trans (congrArg some (by kernel_rfl))⟩
  f28 := Try.func73.trans (congrArg some (by kernel_rfl))
  f29 := Try.func74.trans (congrArg some (by kernel_rfl))
  f46 := ⟨Try.f95.name, by decide, Try.func95.trans (congrArg some (by kernel_rfl))⟩
  f47 := Try.func96.trans (congrArg some (by kernel_rfl))
  f48 := Try.func97.trans (congrArg some (by kernel_rfl))
  f49 := ⟨Try.f98.name, by decide, Try.func98.trans (congrArg some (by kernel_rfl))⟩
  f50 := ⟨Try.f99.name, by decide, Try.func99.trans (congrArg some (by kernel_rfl))⟩
  f57 := ⟨Try.f105.name, by decide, Try.func105.trans (congrArg some (by kernel_rfl))⟩
  t0 := Try.underlying0
  a0 := Try.isAgg0
  z0 := Try.sizeOf0
  v0 := Try.zeroValue0
  t3 := Try.underlying3
  a3 := Try.isAgg3
  z3 := Try.sizeOf3
  v3 := Try.zeroValue3
  t4 := Try.underlying4
  a4 := Try.isAgg4
  z4 := Try.sizeOf4
  v4 := Try.zeroValue4
  t5 := Try.underlying5
  a5 := Try.isAgg5
  z5 := Try.sizeOf5
  v5 := Try.zeroValue5
  t9 := Try.underlying9
  a9 := Try.isAgg9
  z9 := Try.sizeOf9
  v9 := Try.zeroValue9
  t22 := Try.underlying33
  a22 := Try.isAgg33
  z22 := Try.sizeOf33
  v22 := Try.zeroValue33
  t25 := Try.underlying62
  a25 := Try.isAgg62
  z25 := Try.sizeOf62
  v25 := Try.zeroValue62
  t39 := Try.underlying94
  a39 := Try.isAgg94
  z39 := Try.sizeOf94
  v39 := Try.zeroValue94
  t45 := Try.underlying121
  a45 := Try.isAgg121
  z45 := Try.sizeOf121
  v45 := Try.zeroValue121
  t46 := Try.underlying122
  a46 := Try.isAgg122
  z46 := Try.sizeOf122
  v46 := Try.zeroValue122
  t50 := Try.underlying96
  a50 := Try.isAgg96
  z50 := Try.sizeOf96
  v50 := Try.zeroValue96
  t53 := Try.underlying128
  a53 := Try.isAgg128
  z53 := Try.sizeOf128
  v53 := Try.zeroValue128
  t55 := Try.underlying130
  a55 := Try.isAgg130
  z55 := Try.sizeOf130
  v55 := Try.zeroValue130
  t66 := Try.underlying147
  a66 := Try.isAgg147
  z66 := Try.sizeOf147
  v66 := Try.zeroValue147
  t70 := Try.underlying151
  a70 := Try.isAgg151
  z70 := Try.sizeOf151
  v70 := Try.zeroValue151
  t76 := Try.underlying155
  a76 := Try.isAgg155
  z76 := Try.sizeOf155
  v76 := Try.zeroValue155
  t77 := Try.underlying156
  a77 := Try.isAgg156
  z77 := Try.sizeOf156
  v77 := Try.zeroValue156 }
end Go.Proofs.Ytpkbpeeelpgmcaa

namespace Go.Proofs.Ytpkbpeeelpgmcaa
open Go.RowKit Go.Kq Go.Flow Go.Sort

theorem cmpC_tot (a b : Cb) : decide (cmpC a b < 0) = true ∨ a = b ∨ decide (cmpC b a < 0) = true := by
  have h := cmpC_swap a b
  by_cases h0 : cmpC a b = 0
  · exact .inr (.inl (cmpC_zero h0))
  · by_cases h1 : cmpC a b < 0
    · exact .inl (decide_eq_true h1)
    · exact .inr (.inr (decide_eq_true (by omega)))
theorem swoC {α : Type} (f : α → Cb) : SWO (ltOf fun x y : α => cmpC (f x) (f y)) where
  irrefl x := by show decide (cmpC (f x) (f x) < 0) = false; rw [cmpC_self]; rfl
  trans x y z h1 h2 := by
    have h1 : decide (cmpC (f x) (f y) < 0) = true := h1
    have h2 : decide (cmpC (f y) (f z) < 0) = true := h2
    exact decide_eq_true (cmpC_trans (of_decide_eq_true h1) (of_decide_eq_true h2))
  ntrans x y z h1 h2 := by
    have h1 : ¬ cmpC (f x) (f y) < 0 := of_decide_eq_false h1
    have h2 : ¬ cmpC (f y) (f z) < 0 := of_decide_eq_false h2
    refine decide_eq_false fun h => ?_
    have h : cmpC (f x) (f z) < 0 := h
    have e1 := cmpC_swap (f x) (f y)
    have e2 := cmpC_swap (f y) (f z)
    by_cases h3 : cmpC (f y) (f x) < 0
    · have := cmpC_trans h3 h
      omega
    · have h0 := cmpC_zero (show cmpC (f x) (f y) = 0 by omega)
      rw [h0] at h
      omega
/-- A combination in memory that is one of all. -/
abbrev Cg (W : World) (base S K : Nat) := { x : Cv // CvO W base x ∧ CbOk S K x.c }
instance (W : World) (base S K : Nat) : Inhabited (Cg W base S K) := ⟨⟨default, ⟨⟨rfl, .inl ⟨rfl, rfl⟩⟩, ⟨rfl, .inl ⟨rfl, rfl⟩⟩⟩, ⟨List.Pairwise.nil, fun _ h => (by cases h), List.Pairwise.nil, fun _ h => (by cases h)⟩⟩⟩
theorem CvO.len {W : World} {base : Nat} {x : Cv} (h : CvO W base x) : x.p = x.c.st.length ∧ x.q = x.c.ky.length := by
  have h1 := h.a.1
  have h2 := h.b.1
  simp only [List.length_map, Nat.mul_one] at h1 h2
  exact ⟨h1.symm, h2.symm⟩
theorem CbOk.len {S K : Nat} {c : Cb} (h : CbOk S K c) : c.st.length ≤ S ∧ c.ky.length ≤ K := ⟨up_len h.s1 h.s2, up_len h.k1 h.k2⟩
theorem sub_list {α : Type} {p : α → Prop} : ∀ (L : List α), (∀ x ∈ L, p x) → ∃ T : List { x // p x }, T.map Subtype.val = L
  | [], _ => ⟨[], rfl⟩
  | x :: L, h => by
    obtain ⟨T, hT⟩ := sub_list L fun y hy => h y (by simp [hy])
    exact ⟨⟨x, h x (by simp)⟩ :: T, by simp [hT]⟩
set_option maxRecDepth 100000 in
theorem sortAll (W : World) (base ga cap S K : Nat) (hS : S ≤ 8) (hK : K ≤ 8) (L : List Cv) (hL : L.map Cv.c = allC S K) (hown : W.ownsRow base 30 2 (.slice (some ⟨ga, 0, none⟩) L.length cap) L.length (L.flatMap Cv.cells)) (hel : ∀ x ∈ L, CvO W base x) (hlen : L.length ≤ 100000) :
    Calls Try.prog 23 #[.slice (some ⟨ga, 0, none⟩) L.length cap, .func (.func 24) #[] #[]] W fun e w' => e = .returned (.tuple #[]) ∧ ∃ L' : List Cv, L'.map Cv.c = srtC S K ∧ w'.ownsRow base 30 2 (.slice (some ⟨ga, 0, none⟩) L.length cap) L.length (L'.flatMap Cv.cells) ∧ L'.length = L.length ∧ (∀ x ∈ L', CvO w' base x) ∧ Kp (Kq.One ga) W w' := by
  obtain ⟨T, hT⟩ := sub_list (p := fun x => CvO W base x ∧ CbOk S K x.c) L fun x hx => ⟨hel x hx, mem_allC.1 (hL ▸ List.mem_map_of_mem hx)⟩
  have T' : List (Cg W base S K) := T
  have hTl : T.length = L.length := by rw [← hT, List.length_map]
  have hfl : L.flatMap Cv.cells = T.flatMap fun x : Cg W base S K => x.1.cells := by rw [← hT, List.flatMap_map]
  have hk : ∀ x : Cg W base S K, (x.1.cells).length = 2 := fun x => rfl
  have hga := own_ge hown (g := ga) rfl
  obtain ⟨csg, hcg⟩ := row_cells hown (g := ga) rfl
  have hnot : ∀ (b : Nat) (cs : Array Value), W.heap[b]? = some (.cells cs 3 (0, 0)) → ¬ Kq.One ga b := fun b cs h e => by
    have e : b = ga := e
    rw [e, hcg] at h
    injection h with h
    injection h with _ h2
    exact absurd h2 (by decide)
  have hcmp : CmpLays Try.prog 24 #[] (fun x : Cg W base S K => x.1.cells) 2 (fun x y => cmpC x.1.c y.1.c) ga 0 T.toArray.size W := by
    intro m os dk hs x y
    obtain ⟨ts⟩ := dk
    have hkp := kp_sortedK (w := W) (g := ga) (m := m) (os := os) hk ts
    have lx := x.2.1.len
    have ly := y.2.1.len
    have cx := x.2.2.len
    have cy := y.2.2.len
    have h := compare_any x.1 y.1 _ ((x.2.1.kp hkp hnot).is) ((y.2.1.kp hkp hnot).is) (by omega) (by omega) (by omega) (by omega)
    exact h
  rw [hfl] at hown
  have hs := AnyQ.slices_SortFunc sortC 2 Try.isAgg30 Try.sizeOf30 (fun x : Cg W base S K => x.1.cells) hk (fun x => cv_one x.1) (fun x y => cmpC x.1.c y.1.c) (swoC fun x : Cg W base S K => x.1.c) 24 #[] ga 0 cap T.toArray W (enters_of Try.func24 (by kernel_rfl) rfl) hcmp (own_holdsK hk hown) hga.2 (by rw [List.size_toArray, hTl]; omega)
  change Calls Try.prog 23 _ _ _ at hs
  simp only [List.size_toArray, hTl] at hs
  refine hs.mono ?_
  rintro e w' ⟨rfl, d', m, os, hpi, hsi, rfl⟩
  have hP2 := perm_of_permIn (l := T) (by rw [List.size_toArray, hTl]; exact hpi)
  have hsz : d'.size = L.length := by have := hP2.length_eq; rw [hTl] at this; simpa using this
  have hpw := pairwise_of_sortedIn hsz hsi
  obtain ⟨l'⟩ := d'
  have hl2 : l'.length = L.length := by simpa using hsz
  have ho2 := own_sortedK (ts := l') (m := m) (os := os) hk hown (by rw [hl2, hTl])
  have hk2 := kp_sortedK (w := W) (g := ga) (m := m) (os := os) hk l'
  refine ⟨rfl, l'.map Subtype.val, ?_, ?_, by rw [List.length_map, hl2], ?_, hk2⟩
  · have hp : (l'.map fun x => x.1.c).Perm (allC S K) := by
      rw [← hL, ← hT, List.map_map]
      exact hP2.map _
    rw [List.map_map]
    refine upC_ext ?_ (srtC_up S K) fun x => ?_
    · have hnd : (l'.map fun x => x.1.c).Nodup := hp.nodup_iff.2 (allC_nodup S K)
      have hle : (l'.map fun x => x.1.c).Pairwise fun a b => ¬ cmpC b a < 0 := List.pairwise_map.2 (hpw.imp fun {x y} h => by
        have h : decide (cmpC y.1.c x.1.c < 0) = false := h
        exact of_decide_eq_false h)
      refine (hle.and hnd).imp fun {a b} h => ?_
      have h4 : cmpC a b ≠ 0 := fun e => h.2 (cmpC_zero e)
      have h5 := cmpC_swap a b
      have := h.1
      omega
    · exact hp.mem_iff.trans (mem_allC.trans mem_srtC.symm)
  · rw [List.flatMap_map]
    exact ho2
  · intro x hx
    obtain ⟨y, _, rfl⟩ := List.mem_map.1 hx
    exact y.2.1.kp hk2 hnot
end Go.Proofs.Ytpkbpeeelpgmcaa

namespace Go.Kq
open Go.RowKit

def freeButB (l : List Oper) (t : Tmp) (i : Nat) : Bool := (List.range l.length).all fun j => decide (j = i) || (match l[j]? with | some o => (match o.dst with | some d => decide (d ≠ t) | none => true) | none => true)
theorem Fr.evalYet {a0 a : Act} {r : Nat → Option Value} {l : List Oper} (h : Fr l.toArray a0 r a) {t : Tmp} {i : Nat} (hr : r i = none) (hf : freeButB l t i = true) : a.tmps.getD t undef = a0.tmps.getD t undef := by
  have := h.rest t fun j o hj ho => by
    have hj' : l[j]? = some o := by simpa using hj
    have hlt := (List.getElem?_eq_some_iff.1 hj').1
    have := List.all_eq_true.1 hf j (List.mem_range.2 hlt)
    rw [hj'] at this
    simp only [ho, Bool.or_eq_true, decide_eq_true_eq, ne_eq, not_true_eq_false, or_false] at this
    rw [this, hr]
  simp [this]
end Go.Kq
