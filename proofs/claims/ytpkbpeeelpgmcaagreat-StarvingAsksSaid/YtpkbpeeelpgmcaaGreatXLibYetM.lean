/- Chapter 15: Least: what the loops over the subsets build. · Chapter 15: the library's functions at this dump, as their contracts want them (printed by lay.py). · Chapter 15: slices.SortFunc over all combinations. · A slot that one operation of a region writes, ahead of it. No program in sight. -/
import Derived.Shelf.SlLaysF0
import Derived.Ground.SlsfProg
import Derived.Shelf.SlGeneric
import Derived.Test.YtpkbpeeelpgmcaaGreatProg
import Derived.Shelf.SlSortCmp.WholeK
import Derived.Test.YtpkbpeeelpgmcaaGreatXCmBM
import Derived.Test.YtpkbpeeelpgmcaaGreatXSaf
import Derived.Test.YtpkbpeeelpgmcaaGreatXNwBitM
import Derived.Test.YtpkbpeeelpgmcaaGreatXLibReg
namespace Go.Proofs.YtpkbpeeelpgmcaaGreat
open Go.RowKit Go.Kq Go.Flow

/-- A combination whose rows are its own. -/
structure CvO (w : World) (base : Nat) (x : Cv) : Prop where
  a : w.ownsRow base 3 1 (.slice x.P x.p x.cp) x.p ((x.c.st.map Int.ofNat).map (Value.int .i64))
  b : w.ownsRow base 3 1 (.slice x.Q x.q x.cq) x.q ((x.c.ky.map Int.ofNat).map (Value.int .i64))
theorem CvO.is {w : World} {base : Nat} {x : Cv} (h : CvO w base x) : CvIs w x := ⟨RdI.of_own h.a, RdI.of_own h.b⟩
theorem CvO.no {w w' : World} {base : Nat} {x : Cv} (h : CvO w base x) (k : Kp No w w') : CvO w' base x := ⟨own_kp h.a k fun _ _ e => e, own_kp h.b k fun _ _ e => e⟩
theorem CvO.put {w : World} {base : Nat} {x : Cv} (h : CvO w base x) {l : Nat} {o : Obj} (o' : Obj) (hl : w.heap[l]? = some o) (ho : o.isCells = false) : CvO (w.putObj l o') base x := ⟨ownsRow_putObj h.a _ hl ho, ownsRow_putObj h.b _ hl ho⟩
theorem CvO.mono {w : World} {base b : Nat} {x : Cv} (h : CvO w base x) (hb : b ≤ base) : CvO w b x := ⟨own_mono h.a hb, own_mono h.b hb⟩
theorem row_cells {W : World} {base n : Nat} {e : TypeId} {size : Nat} {V : Value} {xs : List Value} (h : W.ownsRow base e size V n xs) {g : Nat} (hg : V.ownBlock = some g) : ∃ cs, W.heap[g]? = some (.cells cs e (0, 0)) := by
  rcases h.2 with ⟨rfl, _⟩ | ⟨g', cap, cur, rfl, _, hgb, _⟩
  · cases hg
  · cases hg
    exact ⟨_, hgb⟩
theorem CvO.kp {S : Nat → Prop} {w w' : World} {base : Nat} {x : Cv} (h : CvO w base x) (k : Kp S w w') (hS : ∀ (b : Nat) (cs : Array Value), w.heap[b]? = some (.cells cs 3 (0, 0)) → ¬ S b) : CvO w' base x :=
  ⟨own_kp h.a k fun g hg => by obtain ⟨cs, hc⟩ := row_cells h.a hg; exact hS _ _ hc, own_kp h.b k fun g hg => by obtain ⟨cs, hc⟩ := row_cells h.b hg; exact hS _ _ hc⟩
/-- Combinations so far: t whole rows of sets of stops, u sets of keys of the next. -/
def allP (S K t u : Nat) : List Cb := ((List.range t).flatMap fun s => (List.range (2 ^ K)).map fun k => ⟨numB s S, numB k K⟩) ++ (List.range u).map fun k => ⟨numB t S, numB k K⟩
theorem allP_succ (S K t u : Nat) : allP S K t (u + 1) = allP S K t u ++ [⟨numB t S, numB u K⟩] := by
  unfold allP
  rw [List.range_succ, List.map_append, List.append_assoc]
  rfl
theorem allP_row (S K t : Nat) : allP S K t (2 ^ K) = allP S K (t + 1) 0 := by
  unfold allP
  rw [List.range_succ, List.flatMap_append]
  simp
theorem allP_all (S K : Nat) : allP S K (2 ^ S) 0 = allC S K := by
  unfold allP allC
  simp
/-- The box of all, its row, and its elements. -/
structure AllI (g : Nat) (w5 W : World) (L : List Cv) : Prop where
  box : ∃ v, Boxed W g 46 v ∧ W.ownsRow w5.heap.size 30 2 v L.length (L.flatMap Cv.cells)
  el : ∀ x ∈ L, CvO W w5.heap.size x
  kp : Kp (Kq.One g) w5 W
theorem AllI.no {g : Nat} {w5 W W' : World} {L : List Cv} (h : AllI g w5 W L) (k : Kp No W W') : AllI g w5 W' L := by
  obtain ⟨⟨v, hb, ho⟩, he, hk⟩ := h
  exact ⟨⟨v, k.heap hb id, own_kp ho k fun _ _ e => e⟩, fun x hx => (he x hx).no k, hk.no k⟩
theorem AllI.put {g : Nat} {w5 W : World} {L : List Cv} (h : AllI g w5 W L) (hg : g < w5.heap.size) {l : Nat} {o : Obj} (o' : Obj) (hle : w5.heap.size ≤ l) (hl : W.heap[l]? = some o) (ho : o.isCells = false) : AllI g w5 (W.putObj l o') L := by
  obtain ⟨⟨v, hb, hw⟩, he, hk⟩ := h
  refine ⟨⟨v, ?_, ownsRow_putObj hw _ hl ho⟩, fun x hx => (he x hx).put _ hl ho, kp_putObj hk hle _⟩
  exact ((grownBy_putObj' W l o').block g hb.lt (fun e => by injection e with e; omega)).trans hb
/-- One more. -/
theorem AllI.push {g : Nat} {w5 W W1 : World} {L : List Cv} {v v' : Value} {x : Cv} {tmp : Obj} (hk5 : Kp (Kq.One g) w5 W) (hg : g < w5.heap.size) (he : ∀ y ∈ L, CvO W w5.heap.size y) (hb : Boxed W g 46 v) (ho : W.ownsRow w5.heap.size 30 2 v L.length (L.flatMap Cv.cells)) (hx : CvO W w5.heap.size x)
    (hown' : W1.ownsRow w5.heap.size 30 2 v' (L.length + 1) (L.flatMap Cv.cells ++ x.cells)) (hgrow : (W.alloc tmp).grownBy W1 v.ownBlock) :
    AllI g w5 (W1.setCell ⟨g, 0, none⟩ v') (L ++ [x]) ∧ Boxed W1 g 46 v ∧ KeepsFrom w5.heap.size W (W1.setCell ⟨g, 0, none⟩ v') ∧
      ∀ (b : Nat) (cs : Array Value) (e : TypeId) (mm : Nat × Nat), W.heap[b]? = some (.cells cs e mm) → e ≠ 30 → e ≠ 46 → (W1.setCell ⟨g, 0, none⟩ v').heap[b]? = some (.cells cs e mm) := by
  have hv1 : Boxed W1 g 46 v := (hb.alloc tmp).kept hgrow (hb.not_row (by decide) ho)
  have hkk : Kp (fun k => v.ownBlock = some k ∨ k = g) W (W1.setCell ⟨g, 0, none⟩ v') := ((Kp.alloc _ _ _).tr (Kp.grown hgrow fun _ hg _ => .inl hg)).tr (Kp.setCell _ _ _ _ fun _ => .inr rfl)
  have hty : ∀ (b : Nat) (cs : Array Value) (e : TypeId) (mm : Nat × Nat), W.heap[b]? = some (.cells cs e mm) → e ≠ 30 → e ≠ 46 → ¬ (v.ownBlock = some b ∨ b = g) := fun b cs e mm hbb h1 h2 h => by
    rcases h with h | h
    · obtain ⟨cs2, hcs⟩ := row_cells ho h
      rw [hbb] at hcs
      injection hcs with hcs
      injection hcs with _ h6
      exact h1 h6
    · have h6 : W.heap[g]? = some (.cells #[v] 46 (0, 0)) := hb
      rw [← h, hbb] at h6
      injection h6 with h6
      injection h6 with _ h7
      exact h2 h7
  refine ⟨⟨⟨v', hv1.set v', ?_⟩, ?_, ?_⟩, hv1, ⟨hkk.size, ?_⟩, fun b cs e mm h h1 h2 => hkk.heap h (hty b cs e mm h h1 h2)⟩
  · rw [List.length_append, List.flatMap_append]
    simp only [List.length_cons, List.length_nil, Nat.zero_add, List.flatMap_cons, List.flatMap_nil, List.append_nil]
    exact hown'.kept (grownBy_setCell' W1 g v') (.inr (hv1.not_row (by decide) hown').symm)
  · intro y hy
    have hyo : CvO W w5.heap.size y := by
      rcases List.mem_append.1 hy with h | h
      · exact he y h
      · rw [List.mem_singleton.1 h]; exact hx
    exact hyo.kp hkk fun b cs h => hty b cs _ _ h (by decide) (by decide)
  · refine hk5.trans hkk fun k hk h => ?_
    rcases h with h | h
    · have := own_ge ho h
      omega
    · exact h
  · intro k o hB hk hc
    refine hkk.heap hk fun h => ?_
    rcases h with h | h
    · obtain ⟨cs2, hcs⟩ := row_cells ho h
      rw [hk] at hcs
      cases hcs
      cases hc
    · omega
theorem heap_putObj {W : World} {b l : Nat} {cs : Array Value} {e : TypeId} {mm : Nat × Nat} {o : Obj} (h : W.heap[b]? = some (.cells cs e mm)) (o' : Obj) (hl : W.heap[l]? = some o) (ho : o.isCells = false) : (W.putObj l o').heap[b]? = some (.cells cs e mm) := by
  have hne : b ≠ l := fun e => by subst e; rw [h] at hl; cases hl; cases ho
  exact (World.putObj_heap_other hne).trans h
theorem KeepsFrom.up {B B' : Nat} {W W' : World} (h : KeepsFrom B W W') (hb : B ≤ B') : KeepsFrom B' W W' := ⟨h.size, fun k o hk h1 h2 => h.same k o (by omega) h1 h2⟩
theorem KeepsFrom.put {B : Nat} {W W' : World} (h : KeepsFrom B W W') {l : Nat} (hl : W.heap.size ≤ l) (o' : Obj) : KeepsFrom B W (W'.putObj l o') :=
  ⟨by have := h.size; have := (grownBy_putObj' W' l o').size; omega, fun k o hk h1 h2 => by
    have hlt := (Array.getElem?_eq_some_iff.1 h1).1
    exact (World.putObj_heap_other (by omega)).trans (h.same k o hk h1 h2)⟩
theorem allP_len (S K t u : Nat) : (allP S K t u).length = t * 2 ^ K + u := by
  unfold allP
  rw [List.length_append, List.length_flatMap]
  simp only [List.length_map, List.length_range]
  congr 1
  rw [List.map_const', List.length_range, List.sum_replicate_nat]
theorem allP_bd {S K t u : Nat} (hS : S ≤ 8) (hK : K ≤ 8) (ht : t ≤ 2 ^ S) (hu : u ≤ 2 ^ K) : (allP S K t u).length ≤ 70000 := by
  rw [allP_len]
  have h1 : 2 ^ S ≤ 256 := Nat.pow_le_pow_right (by omega) hS
  have h2 : 2 ^ K ≤ 256 := Nat.pow_le_pow_right (by omega) hK
  have := Nat.mul_le_mul (Nat.le_trans ht h1) h2
  omega
theorem infoC : (Tryz.prog.info? 30).map (fun i => (i.zero, i.size, i.bytes)) = some (some (.agg #[.slice none 0 0, .slice none 0 0]), 2, 48) := by kernel_rfl
end Go.Proofs.YtpkbpeeelpgmcaaGreat

namespace Go.Proofs.YtpkbpeeelpgmcaaGreat
open Go.Shelf
def sortC_ren : Go.Shelf.Ren := ⟨fun | 6 => 37 | 15 => 66 | 14 => 65 | 28 => 91 | 29 => 92 | 20 => 83 | 21 => 84 | 22 => 85 | 23 => 86 | 24 => 87 | 25 => 88 | 26 => 89 | 27 => 90 | 46 => 110 | 47 => 111 | 48 => 112 | 49 => 113 | 50 => 114 | 57 => 119 | n => n, fun | 22 => 46 | 24 => 30 | 25 => 70 | 3 => 3 | 39 => 62 | 0 => 0 | 53 => 142 | 55 => 144 | 4 => 4 | 46 => 136 | 45 => 135 | 50 => 116 | 5 => 5 | 9 => 9 | 66 => 158 | 70 => 162 | 76 => 166 | 77 => 167 | n => n, fun | n => n⟩
theorem sortC : Go.Proofs.SlLaysF0.n6 Tryz.prog sortC_ren := {
  mixed := by kernel_rfl
  f6 := ⟨Tryz.f37.name, by decide, Tryz.func37.trans (congrArg some (by kernel_rfl))⟩
  f14 := ⟨Tryz.f65.name, by decide, Tryz.func65.trans (congrArg some (by kernel_rfl))⟩
  f15 := Tryz.func66.trans (congrArg some (by kernel_rfl))
  f20 := ⟨Tryz.f83.name, by decide, Tryz.func83.trans (congrArg some (by kernel_rfl))⟩
  f21 := ⟨Tryz.f84.name, by decide, Tryz.func84.trans (congrArg some (by kernel_rfl))⟩
  f22 := ⟨Tryz.f85.name, by decide, Tryz.func85.trans (congrArg some (by kernel_rfl))⟩
  f23 := ⟨Tryz.f86.name, by decide, Tryz.func86.trans (congrArg some (by kernel_rfl))⟩
  f24 := ⟨Tryz.f87.name, by decide, Tryz.func87.trans (congrArg some (by kernel_rfl))⟩
  f25 := ⟨Tryz.f88.name, by decide, Tryz.func88.trans (congrArg some (by kernel_rfl))⟩
  f26 := ⟨Tryz.f89.name, by decide, Tryz.func89.trans (congrArg some (by kernel_rfl))⟩
  f27 := ⟨Tryz.f90.name, by decide, Tryz.func90.trans (congrArg some (by kernel_rfl))⟩
  f28 := Tryz.func91.trans (congrArg some (by kernel_rfl))
  f29 := Tryz.func92.trans (congrArg some (by kernel_rfl))
  f46 := ⟨Tryz.f110.name, by decide, Tryz.func110.trans (congrArg some (by kernel_rfl))⟩
  f47 := Tryz.func111.trans (congrArg some (by kernel_rfl))
  f48 := Tryz.func112.trans (congrArg some (by kernel_rfl))
  f49 := ⟨Tryz.f113.name, by decide, Tryz.func113.trans (congrArg some (by kernel_rfl))⟩
  f50 := ⟨Tryz.f114.name, by decide, Tryz.func114.trans (congrArg some (by kernel_rfl))⟩
  f57 := ⟨Tryz.f119.name, by decide, Tryz.func119.trans (congrArg some (by kernel_rfl))⟩
  t0 := Tryz.underlying0
  a0 := Tryz.isAgg0
  z0 := Tryz.sizeOf0
  v0 := Tryz.zeroValue0
  t3 := Tryz.underlying3
  a3 := Tryz.isAgg3
  z3 := Tryz.sizeOf3
  v3 := Tryz.zeroValue3
  t4 := Tryz.underlying4
  a4 := Tryz.isAgg4
  z4 := Tryz.sizeOf4
  v4 := Tryz.zeroValue4
  t5 := Tryz.underlying5
  a5 := Tryz.isAgg5
  z5 := Tryz.sizeOf5
  v5 := Tryz.zeroValue5
  t9 := Tryz.underlying9
  a9 := Tryz.isAgg9
  z9 := Tryz.sizeOf9
  v9 := Tryz.zeroValue9
  t22 := Tryz.underlying46
  a22 := Tryz.isAgg46
  z22 := Tryz.sizeOf46
  v22 := Tryz.zeroValue46
  t25 := Tryz.underlying70
  a25 := Tryz.isAgg70
  z25 := Tryz.sizeOf70
  v25 := Tryz.zeroValue70
  t39 := Tryz.underlying62
  a39 := Tryz.isAgg62
  z39 := Tryz.sizeOf62
  v39 := Tryz.zeroValue62
  t45 := Tryz.underlying135
  a45 := Tryz.isAgg135
  z45 := Tryz.sizeOf135
  v45 := Tryz.zeroValue135
  t46 := Tryz.underlying136
  a46 := Tryz.isAgg136
  z46 := Tryz.sizeOf136
  v46 := Tryz.zeroValue136
  t50 := Tryz.underlying116
  a50 := Tryz.isAgg116
  z50 := Tryz.sizeOf116
  v50 := Tryz.zeroValue116
  t53 := Tryz.underlying142
  a53 := Tryz.isAgg142
  z53 := Tryz.sizeOf142
  v53 := Tryz.zeroValue142
  t55 := Tryz.underlying144
  a55 := Tryz.isAgg144
  z55 := Tryz.sizeOf144
  v55 := Tryz.zeroValue144
  t66 := Tryz.underlying158
  a66 := Tryz.isAgg158
  z66 := Tryz.sizeOf158
  v66 := Tryz.zeroValue158
  t70 := Tryz.underlying162
  a70 := Tryz.isAgg162
  z70 := Tryz.sizeOf162
  v70 := Tryz.zeroValue162
  t76 := Tryz.underlying166
  a76 := Tryz.isAgg166
  z76 := Tryz.sizeOf166
  v76 := Tryz.zeroValue166
  t77 := Tryz.underlying167
  a77 := Tryz.isAgg167
  z77 := Tryz.sizeOf167
  v77 := Tryz.zeroValue167 }
end Go.Proofs.YtpkbpeeelpgmcaaGreat

namespace Go.Proofs.YtpkbpeeelpgmcaaGreat
open Go.RowKit Go.Kq Go.Flow Go.Sort

theorem cmpC_tot (a b : Cb) : decide (cmpC a b < 0) = true ∨ a = b ∨ decide (cmpC b a < 0) = true := by
  have h := cmpC_swap a b
  by_cases h0 : cmpC a b = 0
  · exact .inr (.inl (cmpC_zero h0))
  · by_cases h1 : cmpC a b < 0
    · exact .inl (decide_eq_true h1)
    · exact .inr (.inr (decide_eq_true (by omega)))
theorem swoC {α : Type} (f : α → Cb) : SWO (ltOf fun x y : α => cmpC (f x) (f y)) where
  irrefl x := by show decide (cmpC (f x) (f x) < 0) = false; rw [cmpC_self]; rfl
  trans x y z h1 h2 := by
    have h1 : decide (cmpC (f x) (f y) < 0) = true := h1
    have h2 : decide (cmpC (f y) (f z) < 0) = true := h2
    exact decide_eq_true (cmpC_trans (of_decide_eq_true h1) (of_decide_eq_true h2))
  ntrans x y z h1 h2 := by
    have h1 : ¬ cmpC (f x) (f y) < 0 := of_decide_eq_false h1
    have h2 : ¬ cmpC (f y) (f z) < 0 := of_decide_eq_false h2
    refine decide_eq_false fun h => ?_
    have h : cmpC (f x) (f z) < 0 := h
    have e1 := cmpC_swap (f x) (f y)
    have e2 := cmpC_swap (f y) (f z)
    by_cases h3 : cmpC (f y) (f x) < 0
    · have := cmpC_trans h3 h
      omega
    · have h0 := cmpC_zero (show cmpC (f x) (f y) = 0 by omega)
      rw [h0] at h
      omega
/-- A combination in memory that is one of all. -/
abbrev Cg (W : World) (base S K : Nat) := { x : Cv // CvO W base x ∧ CbOk S K x.c }
instance (W : World) (base S K : Nat) : Inhabited (Cg W base S K) := ⟨⟨default, ⟨⟨rfl, .inl ⟨rfl, rfl⟩⟩, ⟨rfl, .inl ⟨rfl, rfl⟩⟩⟩, ⟨List.Pairwise.nil, fun _ h => (by cases h), List.Pairwise.nil, fun _ h => (by cases h)⟩⟩⟩
theorem CvO.len {W : World} {base : Nat} {x : Cv} (h : CvO W base x) : x.p = x.c.st.length ∧ x.q = x.c.ky.length := by
  have h1 := h.a.1
  have h2 := h.b.1
  simp only [List.length_map, Nat.mul_one] at h1 h2
  exact ⟨h1.symm, h2.symm⟩
theorem CbOk.len {S K : Nat} {c : Cb} (h : CbOk S K c) : c.st.length ≤ S ∧ c.ky.length ≤ K := ⟨up_len h.s1 h.s2, up_len h.k1 h.k2⟩
theorem sub_list {α : Type} {p : α → Prop} : ∀ (L : List α), (∀ x ∈ L, p x) → ∃ T : List { x // p x }, T.map Subtype.val = L
  | [], _ => ⟨[], rfl⟩
  | x :: L, h => by
    obtain ⟨T, hT⟩ := sub_list L fun y hy => h y (by simp [hy])
    exact ⟨⟨x, h x (by simp)⟩ :: T, by simp [hT]⟩
set_option maxRecDepth 100000 in
theorem sortAll (W : World) (base ga cap S K : Nat) (hS : S ≤ 8) (hK : K ≤ 8) (L : List Cv) (hL : L.map Cv.c = allC S K) (hown : W.ownsRow base 30 2 (.slice (some ⟨ga, 0, none⟩) L.length cap) L.length (L.flatMap Cv.cells)) (hel : ∀ x ∈ L, CvO W base x) (hlen : L.length ≤ 100000) :
    Calls Tryz.prog 37 #[.slice (some ⟨ga, 0, none⟩) L.length cap, .func (.func 38) #[] #[]] W fun e w' => e = .returned (.tuple #[]) ∧ ∃ L' : List Cv, L'.map Cv.c = srtC S K ∧ w'.ownsRow base 30 2 (.slice (some ⟨ga, 0, none⟩) L.length cap) L.length (L'.flatMap Cv.cells) ∧ L'.length = L.length ∧ (∀ x ∈ L', CvO w' base x) ∧ Kp (Kq.One ga) W w' := by
  obtain ⟨T, hT⟩ := sub_list (p := fun x => CvO W base x ∧ CbOk S K x.c) L fun x hx => ⟨hel x hx, mem_allC.1 (hL ▸ List.mem_map_of_mem hx)⟩
  have T' : List (Cg W base S K) := T
  have hTl : T.length = L.length := by rw [← hT, List.length_map]
  have hfl : L.flatMap Cv.cells = T.flatMap fun x : Cg W base S K => x.1.cells := by rw [← hT, List.flatMap_map]
  have hk : ∀ x : Cg W base S K, (x.1.cells).length = 2 := fun x => rfl
  have hga := own_ge hown (g := ga) rfl
  obtain ⟨csg, hcg⟩ := row_cells hown (g := ga) rfl
  have hnot : ∀ (b : Nat) (cs : Array Value), W.heap[b]? = some (.cells cs 3 (0, 0)) → ¬ Kq.One ga b := fun b cs h e => by
    have e : b = ga := e
    rw [e, hcg] at h
    injection h with h
    injection h with _ h2
    exact absurd h2 (by decide)
  have hcmp : CmpLays Tryz.prog 38 #[] (fun x : Cg W base S K => x.1.cells) 2 (fun x y => cmpC x.1.c y.1.c) ga 0 T.toArray.size W := by
    intro m os dk hs x y
    obtain ⟨ts⟩ := dk
    have hkp := kp_sortedK (w := W) (g := ga) (m := m) (os := os) hk ts
    have lx := x.2.1.len
    have ly := y.2.1.len
    have cx := x.2.2.len
    have cy := y.2.2.len
    have h := compare_any x.1 y.1 _ ((x.2.1.kp hkp hnot).is) ((y.2.1.kp hkp hnot).is) (by omega) (by omega) (by omega) (by omega)
    exact h
  rw [hfl] at hown
  have hs := AnyQ.slices_SortFunc sortC 2 Tryz.isAgg30 Tryz.sizeOf30 (fun x : Cg W base S K => x.1.cells) hk (fun x => cv_one x.1) (fun x y => cmpC x.1.c y.1.c) (swoC fun x : Cg W base S K => x.1.c) 38 #[] ga 0 cap T.toArray W (enters_of Tryz.func38 (by kernel_rfl) rfl) hcmp (own_holdsK hk hown) hga.2 (by rw [List.size_toArray, hTl]; omega)
  change Calls Tryz.prog 37 _ _ _ at hs
  simp only [List.size_toArray, hTl] at hs
  refine hs.mono ?_
  rintro e w' ⟨rfl, d', m, os, hpi, hsi, rfl⟩
  have hP2 := perm_of_permIn (l := T) (by rw [List.size_toArray, hTl]; exact hpi)
  have hsz : d'.size = L.length := by have := hP2.length_eq; rw [hTl] at this; simpa using this
  have hpw := pairwise_of_sortedIn hsz hsi
  obtain ⟨l'⟩ := d'
  have hl2 : l'.length = L.length := by simpa using hsz
  have ho2 := own_sortedK (ts := l') (m := m) (os := os) hk hown (by rw [hl2, hTl])
  have hk2 := kp_sortedK (w := W) (g := ga) (m := m) (os := os) hk l'
  refine ⟨rfl, l'.map Subtype.val, ?_, ?_, by rw [List.length_map, hl2], ?_, hk2⟩
  · have hp : (l'.map fun x => x.1.c).Perm (allC S K) := by
      rw [← hL, ← hT, List.map_map]
      exact hP2.map _
    rw [List.map_map]
    refine upC_ext ?_ (srtC_up S K) fun x => ?_
    · have hnd : (l'.map fun x => x.1.c).Nodup := hp.nodup_iff.2 (allC_nodup S K)
      have hle : (l'.map fun x => x.1.c).Pairwise fun a b => ¬ cmpC b a < 0 := List.pairwise_map.2 (hpw.imp fun {x y} h => by
        have h : decide (cmpC y.1.c x.1.c < 0) = false := h
        exact of_decide_eq_false h)
      refine (hle.and hnd).imp fun {a b} h => ?_
      have h4 : cmpC a b ≠ 0 := fun e => h.2 (cmpC_zero e)
      have h5 := cmpC_swap a b
      have := h.1
      omega
    · exact hp.mem_iff.trans (mem_allC.trans mem_srtC.symm)
  · rw [List.flatMap_map]
    exact ho2
  · intro x hx
    obtain ⟨y, _, rfl⟩ := List.mem_map.1 hx
    exact y.2.1.kp hk2 hnot
end Go.Proofs.YtpkbpeeelpgmcaaGreat

namespace Go.Kq
open Go.RowKit

def freeButB (l : List Oper) (t : Tmp) (i : Nat) : Bool := (List.range l.length).all fun j => decide (j = i) || (match l[j]? with | some o => (match o.dst with | some d => decide (d ≠ t) | none => true) | none => true)
theorem Fr.evalYet {a0 a : Act} {r : Nat → Option Value} {l : List Oper} (h : Fr l.toArray a0 r a) {t : Tmp} {i : Nat} (hr : r i = none) (hf : freeButB l t i = true) : a.tmps.getD t undef = a0.tmps.getD t undef := by
  have := h.rest t fun j o hj ho => by
    have hj' : l[j]? = some o := by simpa using hj
    have hlt := (List.getElem?_eq_some_iff.1 hj').1
    have := List.all_eq_true.1 hf j (List.mem_range.2 hlt)
    rw [hj'] at this
    simp only [ho, Bool.or_eq_true, decide_eq_true_eq, ne_eq, not_true_eq_false, or_false] at this
    rw [this, hr]
  simp [this]
end Go.Kq
