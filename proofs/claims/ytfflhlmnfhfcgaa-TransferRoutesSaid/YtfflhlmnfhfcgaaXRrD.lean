/- Chapter 33: the reference's Route: the walk. -/
import Derived.Test.YtfflhlmnfhfcgaaXRrC
import Derived.Test.YtfflhlmnfhfcgaaXRrP
import Derived.Test.YtfflhlmnfhfcgaaXLibHvM
namespace Go.Proofs.Ytfflhlmnfhfcgaa
open Go.RowKit Go.Kq

/-- The choices for one division, as the reference keeps them: stops and costs apart. -/
structure Tr where
  sa : Option Addr
  sc : Nat
  ca : Option Addr
  cc : Nat
  chs : List Ch
def Tr.sv (r : Tr) : Value := .slice r.sa r.chs.length r.sc
def Tr.cv (r : Tr) : Value := .slice r.ca r.chs.length r.cc
def costV2 (x : Ch) : Value := .int .i64 x.c.cost
def Tr.ok (B : Nat) (w : World) (r : Tr) : Prop := w.ownsRow B 23 1 r.sv r.chs.length (r.chs.map Ch.sl) ∧ w.ownsRow B 2 1 r.cv r.chs.length (r.chs.map costV2) ∧ ∀ x ∈ r.chs, x.own w B
theorem Tr.ok.kp {B : Nat} {w w' : World} {r : Tr} {S : Nat → Prop} (h : r.ok B w) (hk : Kp S w w') (hS : ∀ k, k < w.heap.size → B ≤ k → ¬ S k) : r.ok B w' := by
  refine ⟨hk.owns h.1 fun g hg => ?_, hk.owns h.2.1 fun g hg => ?_, fun x hx => hk.owns (h.2.2 x hx) fun g hg => ?_⟩
  · have := Go.Kq.own_ge h.1 hg
    exact hS g this.2 this.1
  · have := Go.Kq.own_ge h.2.1 hg
    exact hS g this.2 this.1
  · have := Go.Kq.own_ge (h.2.2 x hx) hg
    exact hS g this.2 this.1
theorem Tr.ok.two {B b9 b10 g9 g10 n c : Nat} {w w' : World} {r : Tr} {u9 u10 : List Value} (h : r.ok B w) (h9 : w.ownsRow b9 83 1 (.slice (some ⟨g9, 0, none⟩) n c) n u9) (h10 : w.ownsRow b10 84 1 (.slice (some ⟨g10, 0, none⟩) n c) n u10) (hk : Kp (fun k => k = g9 ∨ k = g10) w w') : r.ok B w' := by
  have key : ∀ {v : Value} {m : Nat} {e : TypeId} {us : List Value}, w.ownsRow B e 1 v m us → e ≠ 83 → e ≠ 84 → ∀ g, v.ownBlock = some g → ¬ (g = g9 ∨ g = g10) := by
    intro v m e us ho h1 h2 g hg hh
    rcases hh with rfl | rfl
    · exact Go.Kq.own_apart ho h9 h1 hg rfl
    · exact Go.Kq.own_apart ho h10 h2 hg rfl
  exact ⟨hk.owns h.1 (key h.1 (by decide) (by decide)), hk.owns h.2.1 (key h.2.1 (by decide) (by decide)), fun x hx => hk.owns (h.2.2 x hx) (key (h.2.2 x hx) (by decide) (by decide))⟩
theorem Tr.ok.mono {B B' : Nat} {w : World} {r : Tr} (h : r.ok B w) (hB : B' ≤ B) : r.ok B' w := ⟨Go.Kq.own_mono h.1 hB, Go.Kq.own_mono h.2.1 hB, fun x hx => Go.Kq.own_mono (h.2.2 x hx) hB⟩
/-- What the search reads of the table. -/
theorem tab_read {w : World} {g9 D M : Nat} {rows : List Tr} {all : List (List Cc)} (h9 : w.ownsRow g9 83 1 (.slice (some ⟨g9, 0, none⟩) D D) D (rows.map Tr.sv)) (h10 : w.ownsRow g9 84 1 (.slice (some ⟨g9 + 1, 0, none⟩) D D) D (rows.map Tr.cv))
    (hok : ∀ r ∈ rows, r.ok g9 w) (hcs : rows.map (fun r => r.chs.map Ch.c) = all) (hlen : ∀ cs ∈ all, cs.length = M) (hl : rows.length = D) {p kk : Nat} (hp : p < D) (hk : kk < M) :
    ∃ (r : Tr) (x : Ch) (gs gc : Nat), x.c = (all.getD p []).getD kk default ∧ ∀ w', Kp No w w' → w'.cell? ⟨g9, p, none⟩ = some (.slice (some ⟨gs, 0, none⟩) M r.sc) ∧ w'.cell? ⟨gs, kk, none⟩ = some (.slice x.a x.c.stops.length x.cap) ∧ w'.cell? ⟨g9 + 1, p, none⟩ = some (.slice (some ⟨gc, 0, none⟩) M r.cc) ∧ w'.cell? ⟨gc, kk, none⟩ = some (.int .i64 x.c.cost) ∧ x.own w' g9 := by
  obtain ⟨r, hr⟩ : ∃ r, rows[p]? = some r := ⟨_, List.getElem?_eq_getElem (by omega)⟩
  have hrm := List.mem_of_getElem? hr
  have hin : r.chs.map Ch.c ∈ all := by rw [← hcs]; exact List.mem_map.2 ⟨r, hrm, rfl⟩
  have hrl : r.chs.length = M := by have := hlen _ hin; simpa using this
  obtain ⟨x, hx⟩ : ∃ x, r.chs[kk]? = some x := ⟨_, List.getElem?_eq_getElem (by omega)⟩
  obtain ⟨o1, o2, o3⟩ := hok r hrm
  obtain ⟨a1, c1, e1, _, _, h1⟩ := Go.Kq.own_form o1
  obtain ⟨a2, c2, e2, _, _, h2⟩ := Go.Kq.own_form o2
  obtain ⟨gs, hgs⟩ := h1 (by omega)
  obtain ⟨gc, hgc⟩ := h2 (by omega)
  unfold Tr.sv at e1 o1
  unfold Tr.cv at e2 o2
  rw [hrl] at e1 e2 o1 o2
  injection e1 with e1 _ _
  injection e2 with e2 _ _
  rw [e1, hgs] at o1
  rw [e2, hgc] at o2
  refine ⟨r, x, gs, gc, ?_, fun w' k => ⟨?_, ?_, ?_, ?_, k.owns (o3 x (List.mem_of_getElem? hx)) fun _ _ h => h⟩⟩
  · have : all[p]? = some (r.chs.map Ch.c) := by rw [← hcs, List.getElem?_map, hr]; rfl
    simp [this, hx]
  · refine k.cell (Go.Kq.own_cell h9 ?_) id
    rw [List.getElem?_map, hr]
    show some r.sv = _
    unfold Tr.sv
    rw [hrl, e1, hgs]
  · exact k.cell (Go.Kq.own_cell o1 (by rw [List.getElem?_map, hx]; rfl)) id
  · refine k.cell (Go.Kq.own_cell h10 ?_) id
    rw [List.getElem?_map, hr]
    show some r.cv = _
    unfold Tr.cv
    rw [hrl, e2, hgc]
  · exact k.cell (Go.Kq.own_cell o2 (by rw [List.getElem?_map, hx]; rfl)) id
theorem own_rdi_int {w : World} {base n cap : Nat} {A : Option Addr} {X : List Int} (h : w.ownsRow base 3 1 (.slice A n cap) n (X.map (Value.int .i64))) : RdI w A n X := by
  have hl := h.1
  simp at hl
  obtain ⟨a, c, hv, _, _, h3⟩ := own_form h
  cases hv
  refine ⟨hl, fun i x hx => ?_⟩
  have hi := (List.getElem?_eq_some_iff.1 hx).1
  obtain ⟨g, rfl⟩ := h3 (by omega)
  exact ⟨g, 0, rfl, by rw [Nat.zero_add, h.cellAt _ (by omega), List.getElem?_map, hx]; rfl⟩
theorem drop_tup {all : List (List Cc)} {M n p : Nat} (h : p < all.length) : (tupN all M n).drop p = pickC all M n p :: (tupN all M n).drop (p + 1) := by
  have h1 : p < (tupN all M n).length := by rw [tupN_len]; exact h
  rw [List.drop_eq_getElem_cons h1]
  have := tupN_at (M := M) (n := n) h
  rw [List.getElem?_eq_getElem h1] at this
  injection this with this
  rw [this]
theorem rev_stops_len {T : List Cc} (h : ∀ x ∈ T, x.stops.length ≤ 14) : (T.reverse.flatMap Cc.stops).length ≤ 14 * T.length := by
  have key : ∀ T : List Cc, (∀ x ∈ T, x.stops.length ≤ 14) → (T.flatMap Cc.stops).length ≤ 14 * T.length := by
    intro T
    induction T with
    | nil => simp
    | cons x T ih =>
      intro h
      have h1 := h x (by simp)
      have h2 := ih fun y hy => h y (by simp [hy])
      rw [List.flatMap_cons, List.length_append, List.length_cons]
      omega
  have := key T.reverse fun x hx => h x (List.mem_reverse.1 hx)
  rwa [List.length_reverse] at this
theorem totC_bd {T : List Cc} (h : ∀ x ∈ T, 0 ≤ x.cost ∧ x.cost ≤ 560000000) : 0 ≤ totC T ∧ totC T ≤ 560000000 * T.length := by
  induction T with
  | nil => simp [totC]
  | cons x T ih =>
    have h1 := h x (by simp)
    have h2 := ih fun y hy => h y (by simp [hy])
    simp only [totC, List.length_cons]
    omega
/-- What 'played' returns. -/
def PlO (B : Nat) (c : Cc) (w : World) (u : Value) : Prop := w.ownsRow B 3 1 u c.stops.length (c.stops.map natV)
def PlT (B : Nat) (c : Cc) (w : World) (u : Value) : Prop := ∃ v, u = .tuple #[v, .int .i64 c.cost] ∧ PlO B c w v
theorem PlO.no {B : Nat} {c : Cc} {w w' : World} {u : Value} (h : PlO B c w u) (k : Kp No w w') : PlO B c w' u := k.owns h fun _ _ x => x
theorem PlT.no {B : Nat} {c : Cc} {w w' : World} {u : Value} (h : PlT B c w u) (k : Kp No w w') : PlT B c w' u := by
  obtain ⟨v, rfl, hv⟩ := h
  exact ⟨v, rfl, hv.no k⟩
theorem infoR (t : TypeId) (h : (Try.prog.info? t).map (fun i => (i.zero, i.size, i.bytes)) = some (some (.slice none 0 0), 1, 24)) : ∃ i : TypeInfo, Try.prog.info? t = some i ∧ i.zero = some (.slice none 0 0) ∧ i.size = 1 ∧ i.bytes = 24 := by
  obtain ⟨i, h1, h2, h3, h4⟩ := info_parts h
  exact ⟨i, h1, h2, h3, h4⟩
theorem info2 : (Try.prog.info? 2).map (fun i => (i.zero, i.size, i.bytes)) = some (some (.int .i64 0), 1, 8) := by kernel_rfl
theorem flat_ones {α : Type} (f : α → Value) : ∀ l : List α, (l.flatMap fun x => [f x]) = l.map f
  | [] => rfl
  | x :: l => by rw [List.flatMap_cons, flat_ones f l]; rfl
theorem make_rows (t e : TypeId) (i : TypeInfo) (ht : Try.prog.underlying t = some (.slice e)) (h1 : Try.prog.info? e = some i) (h2 : i.zero = some (.slice none 0 0)) (h3 : i.size = 1) (h4 : i.bytes = 24) (m : Nat) (hm : m ≤ 100000) (w : World) : (Instr.makeSlice t (.int .i64 (m : Nat)) (.int .i64 (m : Nat))).run Try.prog w = .ok (.slice (some ⟨w.heap.size, 0, none⟩) m m) (w.alloc (.cells (List.replicate m (Value.slice none 0 0)).toArray e)) := by
  have h := run_make_flat w (fun x : Value => [x]) (.slice none 0 0) t e i _ 1 24 m ht h1 h2 h3 h4 (by decide) rfl rfl (by omega) (by omega)
  rwa [flat_ones (fun x : Value => x), List.map_id'] at h
theorem make_ints (m : Nat) (hm : m ≤ 100000) (w : World) : (Instr.makeSlice 23 (.int .i64 (m : Nat)) (.int .i64 (m : Nat))).run Try.prog w = .ok (.slice (some ⟨w.heap.size, 0, none⟩) m m) (w.alloc (.cells (List.replicate m (Value.int .i64 0)).toArray 3)) := by
  obtain ⟨i0, hi, hz0, hz1, hz2⟩ := info_parts info3
  have h := run_make_flat w (fun x : Value => [x]) (.int .i64 0) 23 3 i0 _ 1 8 m Try.underlying23 hi hz0 hz1 hz2 (by decide) rfl rfl (by omega) (by omega)
  rwa [flat_ones (fun x : Value => x), List.map_id'] at h
set_option maxHeartbeats 8000000 in
set_option maxRecDepth 100000 in
theorem rRoute_any (A Y : Option Addr) (n m ca cb : Nat) (xs ys : List Vc) (w : World) (hx : RdV w A n xs) (hy : RdV w Y m ys) :
    Calls Try.prog 26 #[.slice A n ca, .slice Y m cb] w fun e w' => ∃ vF vT vS, e = .returned (.tuple #[.agg #[vF, vT, vS, .int .i64 (routeV xs ys).rs.cost], .int .i64 (routeV xs ys).err]) ∧ RtM w.heap.size vF vT vS (routeV xs ys) w' ∧ Kp No w w' := by
  obtain ⟨i0, hi0, hz0, hz1, hz2⟩ := info_parts info3
  obtain ⟨i23, hi23, hy230, hy231, hy232⟩ := infoR 23 (by kernel_rfl)
  obtain ⟨i2, hi2, hx20, hx21, hx22⟩ := info_parts info2
  obtain ⟨i83, hi83, hy830, hy831, hy832⟩ := infoR 83 (by kernel_rfl)
  obtain ⟨i84, hi84, hy840, hy841, hy842⟩ := infoR 84 (by kernel_rfl)
  have hxl := hx.1
  have hyl := hy.1
  by_cases he : chk xs ys 14 = 0
  · obtain ⟨z1, z2, gx, gy⟩ := chk_zero he
    have HE := Lib.hid he
    clear gx gy he
    have hdl := divs_len xs
    by_cases hd : 4 < (divs xs).length
    · have hv : routeV xs ys = ⟨[], ⟨0, [], []⟩, 3⟩ := by unfold routeV; rw [if_neg (by have := HE.out; omega), if_pos hd]
      rw [hv]
      clear hv
      go_enter Try.func26, Try.ntmps26
      go_wp2_with fail
      refine (Check_any A Y n m ca cb xs ys 14 _ (hx.no (Kp.alloc _ _ _)) (hy.no (Kp.alloc _ _ _)) (by omega)).mono ?_
      rintro e w1 ⟨rfl, hk1⟩
      rw [HE.out]
      go_wp2_with fail
      refine (rdivs_any A n ca xs _ (hx.no ((Kp.alloc _ _ _).tr hk1)) (by omega)).mono ?_
      rintro e w2 ⟨v2, rfl, ho2, hk2⟩
      obtain ⟨a2, c2, rfl, _, _, _⟩ := Go.Kq.own_form ho2
      have hb := hk2.heap (hk1.heap (heap_alloc_new w (.cells #[.slice none 0 0, .slice none 0 0, .slice none 0 0, .int .i64 0] 51)) id) id
      have HB := Lib.hid hb
      have o0 : w2.cell? ⟨w.heap.size, 0, none⟩ = some (.slice none 0 0) := cell_heap hb 0
      have o1 : w2.cell? ⟨w.heap.size, 1, none⟩ = some (.slice none 0 0) := cell_heap hb 1
      have o2 : w2.cell? ⟨w.heap.size, 2, none⟩ = some (.slice none 0 0) := cell_heap hb 2
      have o3 : w2.cell? ⟨w.heap.size, 3, none⟩ = some (.int .i64 0) := cell_heap hb 3
      have f0 := free_heap hb 0
      have f1 := free_heap hb 1
      have f2 := free_heap hb 2
      have f3 := free_heap hb 3
      have hdl2 : (4 : Int) < (divs xs).length := by omega
      clear ho2 hb
      go_wp2_with fail
      have hb9 := set4 (y0 := .slice none 0 0) (y1 := .slice none 0 0) (y2 := .slice none 0 0) (y3 := .int .i64 0) HB.out
      have hk9 := ((Kp.alloc No w (.cells #[.slice none 0 0, .slice none 0 0, .slice none 0 0, .int .i64 0] 51)).tr (hk1.tr hk2)).trans (kp4 w2 w.heap.size (.slice none 0 0) (.slice none 0 0) (.slice none 0 0) (.int .i64 0)) fun g hg e => by have e : g = w.heap.size := e; omega
      generalize (((w2.setCell ⟨w.heap.size, 0, none⟩ (.slice none 0 0)).setCell ⟨w.heap.size, 1, none⟩ (.slice none 0 0)).setCell ⟨w.heap.size, 2, none⟩ (.slice none 0 0)).setCell ⟨w.heap.size, 3, none⟩ (.int .i64 0) = w9 at hb9 hk9 ⊢
      have p0 : w9.cell? ⟨w.heap.size, 0, none⟩ = some (.slice none 0 0) := cell_heap hb9 0
      have p1 : w9.cell? ⟨w.heap.size, 1, none⟩ = some (.slice none 0 0) := cell_heap hb9 1
      have p2 : w9.cell? ⟨w.heap.size, 2, none⟩ = some (.slice none 0 0) := cell_heap hb9 2
      have p3 : w9.cell? ⟨w.heap.size, 3, none⟩ = some (.int .i64 0) := cell_heap hb9 3
      exact bodyPost_ret (v := .tuple #[.agg #[.slice none 0 0, .slice none 0 0, .slice none 0 0, .int .i64 0], .int .i64 (3)]) (by simp [results, Try.results26, go_sem, p0, p1, p2, p3]) rfl ⟨_, _, _, rfl, rtm_nil _ _ _ _, hk9⟩
    · have hv : routeV xs ys = ⟨divs xs, bestR (allC xs ys), 0⟩ := by unfold routeV; rw [if_neg (by have := HE.out; omega), if_neg hd]
      rw [hv]
      clear hv
      obtain ⟨R, hRr⟩ : ∃ R, R = bestR (allC xs ys) := ⟨_, rfl⟩
      rw [← hRr]
      have HRr := Lib.hid hRr
      clear hRr
      obtain ⟨F, hF⟩ : ∃ F, F = divs xs := ⟨_, rfl⟩
      obtain ⟨D, hD⟩ : ∃ D, D = F.length := ⟨_, rfl⟩
      have hF6 : ∀ f ∈ F, f < 6 := fun f hf => by rw [hF] at hf; exact ((divs_mem xs f).1 hf).1
      rw [← hF]
      rw [← hF, ← hD] at hd
      have hD4 : D ≤ 4 := by omega
      have HF := Lib.hid hF
      have HD := Lib.hid hD
      have HF6 := Lib.hid hF6
      clear hF6
      go_enter Try.func26, Try.ntmps26
      go_wp2_with fail
      refine (Check_any A Y n m ca cb xs ys 14 _ (hx.no (Kp.alloc _ _ _)) (hy.no (Kp.alloc _ _ _)) (by omega)).mono ?_
      rintro e w1 ⟨rfl, hk1⟩
      rw [HE.out]
      go_wp2_with fail
      refine (rdivs_any A n ca xs _ (hx.no ((Kp.alloc _ _ _).tr hk1)) (by omega)).mono ?_
      rintro e w2 ⟨v2, rfl, ho2, hk2⟩
      have hb := hk2.heap (hk1.heap (heap_alloc_new w (.cells #[.slice none 0 0, .slice none 0 0, .slice none 0 0, .int .i64 0] 51)) id) id
      have hk02 : Kp No w w2 := ((Kp.alloc No w (.cells #[.slice none 0 0, .slice none 0 0, .slice none 0 0, .int .i64 0] 51)).tr hk1).tr hk2
      have hz1 := hk1.size
      have ho2' := own_mono ho2 (base' := w.heap.size + 1) (by simpa using hz1)
      rw [← hF, ← hD] at ho2'
      obtain ⟨a2, c2, rfl, _, _, ha2⟩ := Go.Kq.own_form ho2'
      have HO2 := Lib.hid ho2'
      have HB := Lib.hid hb
      have hzw2 : w.heap.size < w2.heap.size := (Array.getElem?_eq_some_iff.1 hb).1
      have hDb : decide ((4 : Int) < (D : Int)) = false := decide_eq_false (by omega)
      clear ho2 ho2' hb hk1 hk2 hz1 hd hdl hD hF
      go_wp2_with fail
      refine (rdivs_any Y m cb ys _ (hy.no (hk02.tr (Kp.alloc _ _ _))) (by omega)).mono ?_
      rintro e w4 ⟨v4, rfl, ho4, hk4⟩
      have hot := (hk4.owns (own_made (base := w2.heap.size) (e := 3) (s := 1) (n := 1) (xs := [.int .i64 (-1)]) w2 rfl (Nat.le_refl _) (by unfold maxLen; omega)) (fun _ _ h => h))
      have hkw4 : Kp No w2 w4 := (Kp.alloc _ _ _).tr hk4
      have hsz4 := hkw4.size
      obtain ⟨a4, c4, rfl, _, _, _⟩ := Go.Kq.own_form ho4
      have HN4 := Lib.hid (own_news ho4)
      have HOT := Lib.hid hot
      have hdy := divs_len ys
      clear hot ho4
      go_wp2_with (at_builtin; refine stop_in ?_)
      refine stop_out ?_
      refine wpL_append_any rfl _ _ 23 rfl w2.heap.size 3 i0 (.int .i64 0) 1 8 Try.underlying23 hi0 hz0 hz1 hz2 rfl (by decide) (.slice (some ⟨w2.heap.size, 0, none⟩) 1 1) 1 [.int .i64 (-1)] rfl HOT.out a4 (divs ys).length c4 ((divs ys).map natV) rfl (by simp) HN4.out.1 HN4.out.2 (fun u hu => by obtain ⟨x, _, rfl⟩ := List.mem_map.1 hu; rfl) (by unfold maxLen; omega) (by omega) hsz4 ?_
      intro vt w5 hown5 hgrow5 hat5
      have hkw5 : Kp No w2 w5 := kp_app0 hkw4 HOT.out (Nat.le_refl _) hgrow5
      have hk05 := hk02.tr hkw5
      have HO5 := Lib.hid (hkw5.owns HO2.out fun _ _ h => h)
      have HB5 := Lib.hid (hkw5.heap HB.out id)
      have htl := tos_len ys
      have hM : (tos ys).length = 1 + (divs ys).length := by simp [tos]; omega
      have hM1 : 1 ≤ (tos ys).length := by omega
      rw [← hM, show [Value.int .i64 (-1)] ++ (divs ys).map natV = (tos ys).map (Value.int .i64) from (tos_int ys).symm] at hown5
      obtain ⟨gt, ct, rfl, _, _, hA⟩ := Go.Kq.own_form hown5
      obtain ⟨gt, rfl⟩ := hA (by omega)
      have HT := Lib.hid hown5
      have hgt := (Go.Kq.own_ge hown5 (g := gt) rfl)
      obtain ⟨TS, hTS⟩ : ∃ TS, TS = tos ys := ⟨_, rfl⟩
      obtain ⟨M, hMM⟩ : ∃ M, M = (tos ys).length := ⟨_, rfl⟩
      rw [← hMM] at htl hM1 HT ⊢
      rw [← hTS] at HT
      have HMT := Lib.hid hMM
      have HTS := Lib.hid hTS
      clear hown5 hgrow5 hat5 HOT HN4 hk4 hkw4 hsz4 hA hM hkw5 HO2 HB hdy hMM hTS
      have hm80 := fun w => make_rows 80 83 i83 Try.underlying80 hi83 hy830 hy831 hy832 D (by omega) w
      have hm81 := fun w => make_rows 81 84 i84 Try.underlying81 hi84 hy840 hy841 hy842 D (by omega) w
      go_wp2_with fail
      clear hm80 hm81
      obtain ⟨g9, hg9⟩ : ∃ g9, g9 = w5.heap.size := ⟨_, rfl⟩
      obtain ⟨W0, hW0⟩ : ∃ W0, W0 = (w5.alloc (.cells (Array.replicate D (Value.slice none 0 0)) 83)).alloc (.cells (Array.replicate D (Value.slice none 0 0)) 84) := ⟨_, rfl⟩
      rw [← hW0, ← hg9]
      have hk50 : Kp No w5 W0 := by rw [hW0]; exact (Kp.alloc _ _ _).tr (Kp.alloc _ _ _)
      have hr9 : W0.ownsRow g9 83 1 (.slice (some ⟨g9, 0, none⟩) D D) D (List.replicate D (Value.slice none 0 0)) := by
        have h := own_made (base := g9) (e := 83) (s := 1) (n := D) (xs := List.replicate D (Value.slice none 0 0)) w5 (by simp) (by omega) (by unfold maxLen; omega)
        rw [List.toArray_replicate, ← hg9] at h
        rw [hW0]
        exact h.alloc _
      have hr10 : W0.ownsRow g9 84 1 (.slice (some ⟨g9 + 1, 0, none⟩) D D) D (List.replicate D (Value.slice none 0 0)) := by
        have h := own_made (base := g9) (e := 84) (s := 1) (n := D) (xs := List.replicate D (Value.slice none 0 0)) (w5.alloc (.cells (Array.replicate D (Value.slice none 0 0)) 83)) (by simp) (by simp; omega) (by unfold maxLen; omega)
        rw [List.toArray_replicate, show (w5.alloc (Obj.cells (Array.replicate D (Value.slice none 0 0)) 83)).heap.size = g9 + 1 by rw [hg9]; simp] at h
        rw [hW0]
        exact h
      have hzW : W0.heap.size = g9 + 2 := by rw [hW0, hg9]; simp
      have hzW1 : g9 + 2 ≤ W0.heap.size := by omega
      have hzW2 : W0.heap.size ≤ g9 + 2 := by omega
      have HR9 := Lib.hid hr9
      have HR10 := Lib.hid hr10
      have HOW := Lib.hid (hk50.owns HO5.out fun _ _ h => h)
      have HBW := Lib.hid (hk50.heap HB5.out id)
      have HTW := Lib.hid (hk50.owns HT.out fun _ _ h => h)
      have hk0W := hk05.tr hk50
      have hag : ∀ g, (Value.slice a2 D c2).ownBlock = some g → g < g9 := fun g hg => by rw [hg9]; exact (Go.Kq.own_ge HO5.out hg).2
      have hgt9 : gt < g9 := by omega
      have hw9 : w.heap.size < g9 := by omega
      clear hW0 hg9 hr9 hr10 hzW hk50 HO5 HB5 HT hgt hzw2
      have hD0 : D - 0 = D := Nat.sub_zero D
      have HRep := Lib.hid (fun i (h : i < D) => (show List.replicate (D - i) (Value.slice none 0 0) = Value.slice none 0 0 :: List.replicate (D - (i + 1)) (Value.slice none 0 0) by rw [show D - i = (D - (i + 1)) + 1 by omega, List.replicate_succ]))
      go_loopw [11, 12] (fun va vi wr => ∃ (i pw : Nat) (rows : List Tr), i ≤ D ∧ vi = .int .i64 i ∧ va = .int .i64 pw ∧ pw = M ^ i ∧ rows.length = i ∧ wr.ownsRow g9 83 1 (.slice (some ⟨g9, 0, none⟩) D D) D (rows.map Tr.sv ++ List.replicate (D - i) (.slice none 0 0)) ∧ wr.ownsRow g9 84 1 (.slice (some ⟨g9 + 1, 0, none⟩) D D) D (rows.map Tr.cv ++ List.replicate (D - i) (.slice none 0 0)) ∧ rows.map (fun r => r.chs.map Ch.c) = (F.take i).map (fun f : Nat => TS.map (cho xs ys (f : Int))) ∧ (∀ r ∈ rows, r.ok g9 wr) ∧ Kp (fun k => k = g9 ∨ k = g9 + 1) W0 wr) (fun _ vi _ => D - (intOf vi).toNat)
      case atStart => exact ⟨0, 1, [], by omega, rfl, rfl, rfl, rfl, by simpa using HR9.out, by simpa using HR10.out, by simp, by simp, Kp.refl _ _⟩
      case round =>
        obtain ⟨i, pw, rows, hiD, rfl, rfl, hpwe, hrl, h9, h10, hcs, hok, hkp⟩ := hrel
        have HPW := Lib.hid hpwe
        have HRL := Lib.hid hrl
        have H9 := Lib.hid h9
        have H10 := Lib.hid h10
        have HCS := Lib.hid hcs
        have HOK := Lib.hid hok
        clear hrl h9 h10 hcs hok
        have hszi := hkp.size
        have hpow : pw ≤ 2401 := by
          rw [hpwe]
          have h1 := Nat.pow_le_pow_left htl i
          have h2 := Nat.pow_le_pow_right (n := 7) (by omega) (show i ≤ 4 by omega)
          omega
        clear hpwe
        have hFi := hkp.owns HOW.out fun g hg e => by have := hag g hg; omega
        have hTi := hkp.owns HTW.out fun g hg e => by have hg : some gt = some g := hg; injection hg with hg; omega
        have HFI := Lib.hid hFi
        have HTI := Lib.hid hTi
        clear hFi hTi
        by_cases hlt : i < D
        · obtain ⟨gF, rfl⟩ := ha2 (by omega)
          obtain ⟨f, hf⟩ : ∃ f, F[i]? = some f := ⟨_, List.getElem?_eq_getElem (by rw [← HD.out]; exact hlt)⟩
          have hf6 := HF6.out f (List.mem_of_getElem? hf)
          have HFT := Lib.hid (show F.take (i + 1) = F.take i ++ [f] by rw [List.take_add_one, hf]; rfl)
          have HFF := Lib.hid hf
          clear hf
          go_wp2_with fail
          obtain ⟨wo, rfl⟩ : ∃ wo : World, wo = wr := ⟨_, rfl⟩
          have HOH9 := H9
          have HOH10 := H10
          go_loopw [13] (fun vk wr => ∃ (k : Nat) (r : Tr), k ≤ M ∧ vk = .int .i64 k ∧ r.chs.length = k ∧ r.chs.map Ch.c = (TS.take k).map (cho xs ys (f : Int)) ∧ r.ok wo.heap.size wr ∧ wr.ownsRow g9 83 1 (.slice (some ⟨g9, 0, none⟩) D D) D (rows.map Tr.sv ++ r.sv :: List.replicate (D - (i + 1)) (.slice none 0 0)) ∧ wr.ownsRow g9 84 1 (.slice (some ⟨g9 + 1, 0, none⟩) D D) D (rows.map Tr.cv ++ r.cv :: List.replicate (D - (i + 1)) (.slice none 0 0)) ∧ Kp (fun k => k = g9 ∨ k = g9 + 1) wo wr) (fun vk _ => M - (intOf vk).toNat)
          case atStart => exact ⟨0, ⟨none, 0, none, 0, []⟩, by omega, rfl, rfl, by simp, ⟨⟨rfl, .inl ⟨rfl, rfl⟩⟩, ⟨rfl, .inl ⟨rfl, rfl⟩⟩, by simp⟩, by have h := H9.out; rw [HRep.out i hlt] at h; exact h, by have h := H10.out; rw [HRep.out i hlt] at h; exact h, Kp.refl _ _⟩
          case round =>
            obtain ⟨k, r, hkM, rfl, hrk, hrc, hrok, h9, h10, hkq⟩ := hrel
            have HRK := Lib.hid hrk
            have HRC := Lib.hid hrc
            have HRO := Lib.hid hrok
            have H9 := Lib.hid h9
            have H10 := Lib.hid h10
            clear hrk hrc hrok h9 h10
            have hszk := hkq.size
            by_cases hltk : k < M
            · obtain ⟨tk, htk⟩ : ∃ t, TS[k]? = some t := ⟨_, List.getElem?_eq_getElem (by rw [HTS.out, ← HMT.out]; exact hltk)⟩
              have hkW := hkp.tr hkq
              have cF0 : wr.cell? ⟨gF, i, none⟩ = some (.int .i64 (f : Int)) := Go.Kq.own_cell (hkW.owns HOW.out fun g hg e => by have := hag g hg; omega) (by rw [List.getElem?_map, HFF.out]; rfl)
              have cT0 : wr.cell? ⟨gt, k, none⟩ = some (.int .i64 tk) := Go.Kq.own_cell (hkW.owns HTW.out fun g hg e => by have hg : some gt = some g := hg; injection hg with hg; omega) (by rw [List.getElem?_map, htk]; rfl)
              have HTK := Lib.hid (show TS.take (k + 1) = TS.take k ++ [tk] by rw [List.take_add_one, htk]; rfl)
              clear htk
              obtain ⟨cc, hcc⟩ : ∃ cc, cc = cho xs ys (f : Int) tk := ⟨_, rfl⟩
              have HCC := Lib.hid hcc
              have hkwr : Kp (fun g => w.heap.size < g) w wr := (hk0W.of_no (S := fun g => w.heap.size < g)).tr (hkW.mono fun g _ e => by omega)
              have hkwn : Kp No w wr := hkwr.mono fun g hg e => by have e : w.heap.size < g := e; omega
              have HPA := Lib.hid (fun (w' : World) (hk' : Kp No wr w') => played_any A Y n m ca cb xs ys (f : Int) tk w' (hx.no (hkwn.tr hk')) (hy.no (hkwn.tr hk')) HE.out ⟨by omega, by omega⟩)
              rw [← hcc] at HPA
              clear hcc
              go_wp2_with fail
              have FS : Stab (fun ix wz u => (ix = 10 → PlT wr.heap.size cc wz u) ∧ (ix = 11 → PlT wr.heap.size cc wz u) ∧ (ix = 12 → PlO wr.heap.size cc wz u) ∧ (ix = 14 → PlO wr.heap.size cc wz u) ∧ True) := fun ix u wz wz' kz h => ⟨fun e => PlT.no (h.1 e) kz, fun e => PlT.no (h.2.1 e) kz, fun e => PlO.no (h.2.2.1 e) kz, fun e => PlO.no (h.2.2.2.1 e) kz, trivial⟩
              replace FS := Lib.hid FS
              refine wp_region_each (fun ix u => match ix with | 0 => u = .slice A n ca | 1 => u = .slice Y m cb | 2 => u = .slice (some ⟨gF, 0, none⟩) D c2 | 3 => u = .int .i64 (i : Int) | 4 => u = .pointer (some ⟨gF, i, none⟩) | 5 => u = .int .i64 (f : Int) | 6 => u = .slice (some ⟨gt, 0, none⟩) M ct | 7 => u = .int .i64 (k : Int) | 8 => u = .pointer (some ⟨gt, k, none⟩) | 9 => u = .int .i64 tk | 13 => u = .int .i64 cc.cost | 15 => u = .int .i64 cc.cost | _ => True) (HvW wr (fun ix wz u => (ix = 10 → PlT wr.heap.size cc wz u) ∧ (ix = 11 → PlT wr.heap.size cc wz u) ∧ (ix = 12 → PlO wr.heap.size cc wz u) ∧ (ix = 14 → PlO wr.heap.size cc wz u) ∧ True)) (by kernel_rfl) (by kernel_rfl) (by kernel_rfl) ?_ ?_ ?_
              · exact HvW.start _ _
              · refine ⟨?_, ?_, ?_, ?_, ?_, ?_, ?_, ?_, ?_, ?_, ?_, ?_, ?_, ?_, ?_, ?_, trivial⟩
                · intro r a w' hf hg hW hr hd K hK
                  refine wpOp_of rfl rfl ?_
                  have e0 : a.tmps.getD 0 undef = .slice A n ca := hf.evalFree (by kernel_rfl)
                  go_simp
                  exact hK _ _ rfl (hW.upd 0 _ ⟨fun e => absurd e (by decide), fun e => absurd e (by decide), fun e => absurd e (by decide), fun e => absurd e (by decide), trivial⟩)
                · intro r a w' hf hg hW hr hd K hK
                  refine wpOp_of rfl rfl ?_
                  have e0 : a.tmps.getD 1 undef = .slice Y m cb := hf.evalFree (by kernel_rfl)
                  go_simp
                  exact hK _ _ rfl (hW.upd 1 _ ⟨fun e => absurd e (by decide), fun e => absurd e (by decide), fun e => absurd e (by decide), fun e => absurd e (by decide), trivial⟩)
                · intro r a w' hf hg hW hr hd K hK
                  refine wpOp_of rfl rfl ?_
                  have e0 : a.tmps.getD 7 undef = .slice (some ⟨gF, 0, none⟩) D c2 := hf.evalFree (by kernel_rfl)
                  go_simp
                  exact hK _ _ rfl (hW.upd 2 _ ⟨fun e => absurd e (by decide), fun e => absurd e (by decide), fun e => absurd e (by decide), fun e => absurd e (by decide), trivial⟩)
                · intro r a w' hf hg hW hr hd K hK
                  refine wpOp_of rfl rfl ?_
                  have e0 : a.tmps.getD 12 undef = .int .i64 (i : Int) := hf.evalFree (by kernel_rfl)
                  go_simp
                  exact hK _ _ rfl (hW.upd 3 _ ⟨fun e => absurd e (by decide), fun e => absurd e (by decide), fun e => absurd e (by decide), fun e => absurd e (by decide), trivial⟩)
                · intro r a w' hf hg hW hr hd K hK
                  refine wpOp_of rfl rfl ?_
                  refine hf.depE hg hd 2 62 (by kernel_rfl) fun u0 e0 g0 h0 => ?_
                  replace g0 : u0 = .slice (some ⟨gF, 0, none⟩) D c2 := g0
                  subst g0
                  refine hf.depE hg hd 3 63 (by kernel_rfl) fun u1 e1 g1 h1 => ?_
                  replace g1 : u1 = .int .i64 (i : Int) := g1
                  subst g1
                  go_simp
                  exact hK _ _ rfl (hW.upd 4 _ ⟨fun e => absurd e (by decide), fun e => absurd e (by decide), fun e => absurd e (by decide), fun e => absurd e (by decide), trivial⟩)
                · intro r a w' hf hg hW hr hd K hK
                  refine wpOp_of rfl rfl ?_
                  refine hf.depE hg hd 4 64 (by kernel_rfl) fun u0 e0 g0 h0 => ?_
                  replace g0 : u0 = .pointer (some ⟨gF, i, none⟩) := g0
                  subst g0
                  have z0 := hW.kp.cell cF0 id
                  go_simp
                  exact hK _ _ rfl (hW.upd 5 _ ⟨fun e => absurd e (by decide), fun e => absurd e (by decide), fun e => absurd e (by decide), fun e => absurd e (by decide), trivial⟩)
                · intro r a w' hf hg hW hr hd K hK
                  refine wpOp_of rfl rfl ?_
                  have e0 : a.tmps.getD 8 undef = .slice (some ⟨gt, 0, none⟩) M ct := hf.evalFree (by kernel_rfl)
                  go_simp
                  exact hK _ _ rfl (hW.upd 6 _ ⟨fun e => absurd e (by decide), fun e => absurd e (by decide), fun e => absurd e (by decide), fun e => absurd e (by decide), trivial⟩)
                · intro r a w' hf hg hW hr hd K hK
                  refine wpOp_of rfl rfl ?_
                  have e0 : a.tmps.getD 13 undef = .int .i64 (k : Int) := hf.evalFree (by kernel_rfl)
                  go_simp
                  exact hK _ _ rfl (hW.upd 7 _ ⟨fun e => absurd e (by decide), fun e => absurd e (by decide), fun e => absurd e (by decide), fun e => absurd e (by decide), trivial⟩)
                · intro r a w' hf hg hW hr hd K hK
                  refine wpOp_of rfl rfl ?_
                  refine hf.depE hg hd 6 66 (by kernel_rfl) fun u0 e0 g0 h0 => ?_
                  replace g0 : u0 = .slice (some ⟨gt, 0, none⟩) M ct := g0
                  subst g0
                  refine hf.depE hg hd 7 67 (by kernel_rfl) fun u1 e1 g1 h1 => ?_
                  replace g1 : u1 = .int .i64 (k : Int) := g1
                  subst g1
                  go_simp
                  exact hK _ _ rfl (hW.upd 8 _ ⟨fun e => absurd e (by decide), fun e => absurd e (by decide), fun e => absurd e (by decide), fun e => absurd e (by decide), trivial⟩)
                · intro r a w' hf hg hW hr hd K hK
                  refine wpOp_of rfl rfl ?_
                  refine hf.depE hg hd 8 68 (by kernel_rfl) fun u0 e0 g0 h0 => ?_
                  replace g0 : u0 = .pointer (some ⟨gt, k, none⟩) := g0
                  subst g0
                  have z0 := hW.kp.cell cT0 id
                  go_simp
                  exact hK _ _ rfl (hW.upd 9 _ ⟨fun e => absurd e (by decide), fun e => absurd e (by decide), fun e => absurd e (by decide), fun e => absurd e (by decide), trivial⟩)
                · intro r a w' hf hg hW hr hd K hK
                  refine wpOp_of rfl rfl ?_
                  refine hf.depE hg hd 0 60 (by kernel_rfl) fun u0 e0 g0 h0 => ?_
                  replace g0 : u0 = .slice A n ca := g0
                  subst g0
                  refine hf.depE hg hd 1 61 (by kernel_rfl) fun u1 e1 g1 h1 => ?_
                  replace g1 : u1 = .slice Y m cb := g1
                  subst g1
                  refine hf.depE hg hd 5 65 (by kernel_rfl) fun u2 e2 g2 h2 => ?_
                  replace g2 : u2 = .int .i64 (f : Int) := g2
                  subst g2
                  refine hf.depE hg hd 9 69 (by kernel_rfl) fun u3 e3 g3 h3 => ?_
                  replace g3 : u3 = .int .i64 tk := g3
                  subst g3
                  go_simp
                  refine (HPA.out w' hW.kp).mono ?_
                  rintro e w'' ⟨v, rfl, hv, k2⟩
                  exact hK _ _ trivial ((hW.call FS.out k2).upd 10 _ ⟨fun _ => ⟨v, rfl, own_mono hv hW.kp.size⟩, fun e => absurd e (by decide), fun e => absurd e (by decide), fun e => absurd e (by decide), trivial⟩)
                · intro r a w' hf hg hW hr hd K hK
                  refine wpOp_of rfl rfl ?_
                  refine hf.depE hg hd 10 70 (by kernel_rfl) fun u0 e0 g0 h0 => ?_
                  have f0 := (hW.hv 10 u0 h0).1 rfl
                  go_simp
                  exact hK _ _ trivial (hW.upd 11 _ ⟨fun e => absurd e (by decide), fun _ => f0, fun e => absurd e (by decide), fun e => absurd e (by decide), trivial⟩)
                · intro r a w' hf hg hW hr hd K hK
                  refine wpOp_of rfl rfl ?_
                  refine hf.depE hg hd 11 59 (by kernel_rfl) fun u0 e0 g0 h0 => ?_
                  have f0 := (hW.hv 11 u0 h0).2.1 rfl
                  obtain ⟨v, rfl, hv⟩ := f0
                  go_simp
                  exact hK _ _ trivial (hW.upd 12 _ ⟨fun e => absurd e (by decide), fun e => absurd e (by decide), fun _ => hv, fun e => absurd e (by decide), trivial⟩)
                · intro r a w' hf hg hW hr hd K hK
                  refine wpOp_of rfl rfl ?_
                  refine hf.depE hg hd 11 59 (by kernel_rfl) fun u0 e0 g0 h0 => ?_
                  have f0 := (hW.hv 11 u0 h0).2.1 rfl
                  obtain ⟨v, rfl, hv⟩ := f0
                  go_simp
                  exact hK _ _ rfl (hW.upd 13 _ ⟨fun e => absurd e (by decide), fun e => absurd e (by decide), fun e => absurd e (by decide), fun e => absurd e (by decide), trivial⟩)
                · intro r a w' hf hg hW hr hd K hK
                  refine wpOp_of rfl rfl ?_
                  refine hf.depE hg hd 12 71 (by kernel_rfl) fun u0 e0 g0 h0 => ?_
                  have f0 := (hW.hv 12 u0 h0).2.2.1 rfl
                  go_simp
                  exact hK _ _ trivial (hW.upd 14 _ ⟨fun e => absurd e (by decide), fun e => absurd e (by decide), fun e => absurd e (by decide), fun _ => f0, trivial⟩)
                · intro r a w' hf hg hW hr hd K hK
                  refine wpOp_of rfl rfl ?_
                  refine hf.depE hg hd 13 72 (by kernel_rfl) fun u0 e0 g0 h0 => ?_
                  replace g0 : u0 = .int .i64 cc.cost := g0
                  subst g0
                  go_simp
                  exact hK _ _ rfl (hW.upd 15 _ ⟨fun e => absurd e (by decide), fun e => absurd e (by decide), fun e => absurd e (by decide), fun e => absurd e (by decide), trivial⟩)
              intro r' w3 hg hW hr'
              have hkN := hW.kp
              obtain ⟨q14, hq14⟩ : ∃ u, r' 14 = some u := Option.ne_none_iff_exists'.1 (hr' 14 (by decide))
              have hF14 := (hW.hv 14 q14 hq14).2.2.2.1 rfl
              obtain ⟨q15, hq15⟩ : ∃ u, r' 15 = some u := Option.ne_none_iff_exists'.1 (hr' 15 (by decide))
              have hk15 := hg 15 q15 hq15
              replace hk15 : q15 = .int .i64 cc.cost := hk15
              subst hk15
              simp only [List.length_cons, List.length_nil, Nat.reduceAdd, List.range_succ, List.range_zero, List.nil_append, List.cons_append, List.map_cons, List.map_nil, putAll, Act.put, List.setIfInBounds_toArray, List.set_cons_succ, List.set_cons_zero, hq14, hq15, Option.getD_some]
              clear hg hW hr' FS hq14 hq15
              obtain ⟨av, cv, rfl, _⟩ := Go.Kq.own_form (show w3.ownsRow wr.heap.size 3 1 q14 cc.stops.length (cc.stops.map natV) from hF14)
              have HPO := Lib.hid hF14
              clear hF14 cF0 cT0
              have n9 : w3.ownsRow g9 83 1 (.slice (some ⟨g9, 0, none⟩) D D) D (rows.map Tr.sv ++ r.sv :: List.replicate (D - (i + 1)) (.slice none 0 0)) := hkN.owns H9.out fun _ _ h => h
              have n10 : w3.ownsRow g9 84 1 (.slice (some ⟨g9 + 1, 0, none⟩) D D) D (rows.map Tr.cv ++ r.cv :: List.replicate (D - (i + 1)) (.slice none 0 0)) := hkN.owns H10.out fun _ _ h => h
              have e9 : (rows.map Tr.sv ++ r.sv :: List.replicate (D - (i + 1)) (Value.slice none 0 0))[i]? = some (.slice r.sa k r.sc) := by
                rw [List.getElem?_append_right (by rw [List.length_map, HRL.out]; omega), List.length_map, HRL.out, Nat.sub_self]
                show some r.sv = _
                unfold Tr.sv
                rw [HRK.out]
              have e10 : (rows.map Tr.cv ++ r.cv :: List.replicate (D - (i + 1)) (Value.slice none 0 0))[i]? = some (.slice r.ca k r.cc) := by
                rw [List.getElem?_append_right (by rw [List.length_map, HRL.out]; omega), List.length_map, HRL.out, Nat.sub_self]
                show some r.cv = _
                unfold Tr.cv
                rw [HRK.out]
              have c9 : w3.cell? ⟨g9, i, none⟩ = some (.slice r.sa k r.sc) := Go.Kq.own_cell n9 e9
              have hb9 := (Go.Kq.own_ge n9 (g := g9) rfl).2
              have N9 := Lib.hid n9
              have N10 := Lib.hid n10
              have hsz3 := hkN.size
              have so : w3.ownsRow wo.heap.size 23 1 (.slice r.sa k r.sc) k (r.chs.map Ch.sl) := by
                have h := HRO.out.1
                unfold Tr.sv at h
                rw [HRK.out] at h
                exact hkN.owns h fun _ _ h => h
              have co : w3.ownsRow wo.heap.size 2 1 (.slice r.ca k r.cc) k (r.chs.map costV2) := by
                have h := HRO.out.2.1
                unfold Tr.cv at h
                rw [HRK.out] at h
                exact hkN.owns h fun _ _ h => h
              have SO := Lib.hid so
              have CO := Lib.hid co
              have hk7 : k ≤ 7 := by omega
              clear n9 n10 so co
              go_wp2_with (at_builtin; refine stop_in ?_)
              refine stop_out ?_
              refine wpList_append_own_at _ rfl _ _ 83 rfl wo.heap.size 23 i23 (.slice none 0 0) 1 24 Try.underlying83 hi23 hy230 hy231 hy232 rfl (by decide) (.slice r.sa k r.sc) k (r.chs.map Ch.sl) rfl (SO.out.alloc _) ⟨w3.heap.size, 0, none⟩ 1 1 [.slice av cc.stops.length cv] rfl rfl (new_cells w3 _ (by unfold maxLen; simp)) (fun u hu => by simp at hu; rw [hu]; rfl) (by unfold maxLen; omega) (by omega) (by simp; omega) ?_
              intro v4 w4 hown4 hgrow4 hnil4 hat4
              have hoS : ∀ g, (Value.slice r.sa k r.sc).ownBlock = some g → g9 + 2 ≤ g := fun g hg => by have := (Go.Kq.own_ge SO.out hg).1; omega
              have hoC : ∀ g, (Value.slice r.ca k r.cc).ownBlock = some g → g9 + 2 ≤ g := fun g hg => by have := (Go.Kq.own_ge CO.out hg).1; omega
              have k34 : Kp (fun g => g9 + 2 ≤ g ∧ wo.heap.size ≤ g) w3 w4 := (Kp.alloc _ _ _).tr (Kp.grown hgrow4 fun g hg _ => ⟨hoS g hg, (Go.Kq.own_ge SO.out hg).1⟩)
              have m9 := k34.owns N9.out fun g hg e => by have hg : some g9 = some g := hg; injection hg with hg; omega
              have m10 := k34.owns N10.out fun g hg e => by have hg : some (g9 + 1) = some g := hg; injection hg with hg; omega
              have mc := own_app SO.out CO.out (by decide) hgrow4
              have ml := own_app SO.out (show w3.ownsRow wr.heap.size 3 1 (.slice av cc.stops.length cv) cc.stops.length (cc.stops.map natV) from HPO.out) (by decide) hgrow4
              have mx : ∀ x ∈ r.chs, x.own w4 wo.heap.size := fun x hx => own_app SO.out (show w3.ownsRow wo.heap.size 3 1 x.sl x.c.stops.length (x.c.stops.map natV) from hkN.owns (HRO.out.2.2 x hx) fun _ _ h => h) (by decide) hgrow4
              obtain ⟨a4, c4, rfl, _⟩ := Go.Kq.own_form hown4
              have d9 : w4.cell? ⟨g9, i, none⟩ = some (.slice r.sa k r.sc) := Go.Kq.own_cell m9 e9
              have f9 : w4.frozen? ⟨g9, i, none⟩ = false := Go.Kq.own_free m9 i
              have d10 : w4.cell? ⟨g9 + 1, i, none⟩ = some (.slice r.ca k r.cc) := Go.Kq.own_cell m10 e10
              have hg1 : g9 ≠ g9 + 1 := by omega
              have hg2 : g9 + 1 ≠ g9 := by omega
              have S4 := Lib.hid hown4
              have M9 := Lib.hid m9
              have M10 := Lib.hid m10
              have MC := Lib.hid mc
              have ML := Lib.hid ml
              have MX := Lib.hid mx
              have hsz4 := k34.size
              clear hown4 hgrow4 hnil4 hat4 m9 m10 mc ml mx c9
              go_wp2_with (at_builtin; refine stop_in ?_)
              obtain ⟨wa, hwa⟩ : ∃ wa, wa = w4.setCell ⟨g9, i, none⟩ (.slice a4 (k + 1) c4) := ⟨_, rfl⟩
              rw [← hwa, show w4.heap.size = wa.heap.size by rw [hwa]; simp]
              have k4a : Kp (Kq.One g9) w4 wa := by rw [hwa]; exact kp_setOne _ _ _ _
              have s9 : wa.ownsRow g9 83 1 (.slice (some ⟨g9, 0, none⟩) D D) D (rows.map Tr.sv ++ Value.slice a4 (k + 1) c4 :: List.replicate (D - (i + 1)) (.slice none 0 0)) := by
                have h := Go.Kq.own_set M9.out i (.slice a4 (k + 1) c4)
                rw [List.set_append_right _ _ (by rw [List.length_map, HRL.out]; omega), List.length_map, HRL.out, Nat.sub_self, List.set_cons_zero] at h
                rw [hwa]
                exact h
              have nog : ∀ {v : Value} {n : Nat} {e : TypeId} {us : List Value} {B : Nat}, w4.ownsRow B e 1 v n us → g9 < B → ∀ g, v.ownBlock = some g → ¬ Kq.One g9 g := fun h hB g hg e => by have e : g = g9 := e; have := (Go.Kq.own_ge h hg).1; omega
              have s10 := k4a.owns M10.out fun g hg e => by have hg : some (g9 + 1) = some g := hg; injection hg with hg; have e : g = g9 := e; omega
              have hwo9 : g9 + 2 ≤ wo.heap.size := by omega
              have sS := k4a.owns S4.out (nog S4.out (by omega))
              have sC := k4a.owns MC.out (nog MC.out (by omega))
              have sL := k4a.owns ML.out (nog ML.out (by omega))
              have sX : ∀ x ∈ r.chs, x.own wa wo.heap.size := fun x hx => k4a.owns (MX.out x hx) (nog (MX.out x hx) (by omega))
              have N9 := Lib.hid s9
              have N10 := Lib.hid s10
              have SS := Lib.hid sS
              have SC := Lib.hid sC
              have SL := Lib.hid sL
              have SX := Lib.hid sX
              have hsza := k4a.size
              clear s9 s10 sS sC sL sX d9 f9 d10 hwa nog M9 M10 MC ML MX S4 e9
              refine stop_out ?_
              refine wpList_append_own_at _ rfl _ _ 84 rfl wo.heap.size 2 i2 (.int .i64 0) 1 8 Try.underlying84 hi2 hx20 hx21 hx22 rfl (by decide) (.slice r.ca k r.cc) k (r.chs.map costV2) rfl (SC.out.alloc _) ⟨wa.heap.size, 0, none⟩ 1 1 [.int .i64 cc.cost] rfl rfl (new_cells wa _ (by unfold maxLen; simp)) (fun u hu => by simp at hu; rw [hu]; rfl) (by unfold maxLen; omega) (by omega) (by simp; omega) ?_
              intro v5 wb hown5 hgrow5 hnil5 hat5
              have kab : Kp (fun g => g9 + 2 ≤ g ∧ wo.heap.size ≤ g) wa wb := (Kp.alloc _ _ _).tr (Kp.grown hgrow5 fun g hg _ => ⟨hoC g hg, (Go.Kq.own_ge SC.out hg).1⟩)
              have m9 := kab.owns N9.out fun g hg e => by have hg : some g9 = some g := hg; injection hg with hg; omega
              have m10 := kab.owns N10.out fun g hg e => by have hg : some (g9 + 1) = some g := hg; injection hg with hg; omega
              have ms := own_app SC.out SS.out (by decide) hgrow5
              have ml := own_app SC.out SL.out (by decide) hgrow5
              have mx : ∀ x ∈ r.chs, x.own wb wo.heap.size := fun x hx => own_app SC.out (SX.out x hx) (by decide) hgrow5
              obtain ⟨a5, c5, rfl, _⟩ := Go.Kq.own_form hown5
              have d10 : wb.cell? ⟨g9 + 1, i, none⟩ = some (.slice r.ca k r.cc) := Go.Kq.own_cell m10 e10
              have f10 : wb.frozen? ⟨g9 + 1, i, none⟩ = false := Go.Kq.own_free m10 i
              have C5 := Lib.hid hown5
              have M9 := Lib.hid m9
              have M10 := Lib.hid m10
              have MS := Lib.hid ms
              have ML := Lib.hid ml
              have MX := Lib.hid mx
              clear hown5 hgrow5 hnil5 hat5 m9 m10 ms ml mx e10
              go_wp2_with fail
              obtain ⟨wc, hwc⟩ : ∃ wc, wc = wb.setCell ⟨g9 + 1, i, none⟩ (.slice a5 (k + 1) c5) := ⟨_, rfl⟩
              rw [← hwc]
              have kbc : Kp (Kq.One (g9 + 1)) wb wc := by rw [hwc]; exact kp_setOne _ _ _ _
              have s10 : wc.ownsRow g9 84 1 (.slice (some ⟨g9 + 1, 0, none⟩) D D) D (rows.map Tr.cv ++ Value.slice a5 (k + 1) c5 :: List.replicate (D - (i + 1)) (.slice none 0 0)) := by
                have h := Go.Kq.own_set M10.out i (.slice a5 (k + 1) c5)
                rw [List.set_append_right _ _ (by rw [List.length_map, HRL.out]; omega), List.length_map, HRL.out, Nat.sub_self, List.set_cons_zero] at h
                rw [hwc]
                exact h
              have nog : ∀ {v : Value} {n : Nat} {e : TypeId} {us : List Value} {B : Nat}, wb.ownsRow B e 1 v n us → g9 + 1 < B → ∀ g, v.ownBlock = some g → ¬ Kq.One (g9 + 1) g := fun h hB g hg e => by have e : g = g9 + 1 := e; have := (Go.Kq.own_ge h hg).1; omega
              have s9 := kbc.owns M9.out fun g hg e => by have hg : some g9 = some g := hg; injection hg with hg; have e : g = g9 + 1 := e; omega
              have hwr : wo.heap.size ≤ wr.heap.size := hszk
              have sL : wc.ownsRow wo.heap.size 3 1 (.slice av cc.stops.length cv) cc.stops.length (cc.stops.map natV) := Go.Kq.own_mono (kbc.owns ML.out (nog ML.out (by omega))) hwr
              have sS := kbc.owns MS.out (nog MS.out (by omega))
              have sC := kbc.owns C5.out (nog C5.out (by omega))
              have sX : ∀ x ∈ r.chs, x.own wc wo.heap.size := fun x hx => kbc.owns (MX.out x hx) (nog (MX.out x hx) (by omega))
              have kall : Kp (fun g => g = g9 ∨ g = g9 + 1) wo wc := by
                have h1 : Kp (fun g => g = g9 ∨ g = g9 + 1 ∨ wo.heap.size ≤ g) wo wc := ((((hkq.no hkN).mono fun _ _ h => (by omega)).tr (k34.mono fun _ _ h => .inr (.inr h.2))).tr (k4a.mono fun _ _ h => .inl h)).tr ((kab.mono fun _ _ h => .inr (.inr h.2)).tr (kbc.mono fun _ _ h => .inr (.inl h)))
                exact h1.mono fun g hg h => by omega
              obtain ⟨rn, hrn⟩ : ∃ rn : Tr, rn = ⟨a4, c4, a5, c5, r.chs ++ [⟨cc, av, cv⟩]⟩ := ⟨_, rfl⟩
              have hrl : rn.chs.length = k + 1 := by rw [hrn]; simp [HRK.out]
              have hsv : rn.sv = .slice a4 (k + 1) c4 := by unfold Tr.sv; rw [hrl, hrn]
              have hcv : rn.cv = .slice a5 (k + 1) c5 := by unfold Tr.cv; rw [hrl, hrn]
              have hrcs : rn.chs.map Ch.c = (TS.take (k + 1)).map (cho xs ys (f : Int)) := by rw [hrn, HTK.out, List.map_append, List.map_append, HRC.out, HCC.out]; rfl
              have hrok : rn.ok wo.heap.size wc := by
                refine ⟨?_, ?_, fun x hx => ?_⟩
                · rw [hsv, hrl, hrn, List.map_append]
                  exact sS
                · rw [hcv, hrl, hrn, List.map_append]
                  exact sC
                · rw [hrn] at hx
                  rcases List.mem_append.1 hx with hx | hx
                  · exact sX x hx
                  · simp at hx
                    rw [hx]
                    exact sL
              rw [← hsv] at s9
              rw [← hcv] at s10
              have X1 := Lib.hid hrl
              have X2 := Lib.hid hrcs
              have X3 := Lib.hid hrok
              have X4 := Lib.hid s9
              have X5 := Lib.hid s10
              have X6 := Lib.hid kall
              clear hrn hrl hsv hcv hrcs hrok s9 s10 sL sS sC sX nog hwc d10 f10 kall
              go_wp2
              go_roundw
              case rel => exact ⟨k + 1, rn, by omega, by go_num, X1.out, X2.out, X3.out, X4.out, X5.out, X6.out⟩
              case measure => simp [intOf]; omega
            · obtain rfl : k = M := by omega
              have hmb : (0 : Int) ≤ (pw : Int) * (k : Int) ∧ (pw : Int) * (k : Int) ≤ 16807 := by
                have h := Nat.mul_le_mul hpow htl
                have h' : ((pw * k : Nat) : Int) = (pw : Int) * (k : Int) := by simp
                omega
              have hmb1 := hmb.1
              have hmb2 := hmb.2
              have hall : ∀ r' ∈ rows ++ [r], r'.ok g9 wr := fun r' hr' => by
                rcases List.mem_append.1 hr' with hr' | hr'
                · exact (HOK.out r' hr').two HOH9.out HOH10.out hkq
                · simp at hr'
                  rw [hr']
                  exact HRO.out.mono (by omega)
              have X1 := Lib.hid hall
              have X2 := Lib.hid (show (rows ++ [r]).map (fun r => r.chs.map Ch.c) = (F.take (i + 1)).map (fun f : Nat => TS.map (cho xs ys (f : Int))) by
                rw [HFT.out, List.map_append, List.map_append, HCS.out]
                have h := HRC.out
                rw [List.take_of_length_le (by rw [HTS.out, ← HMT.out]; omega)] at h
                simp [h])
              have X3 := Lib.hid (show (rows ++ [r]).length = i + 1 by rw [List.length_append, HRL.out]; rfl)
              have X4 := Lib.hid (show wr.ownsRow g9 83 1 (.slice (some ⟨g9, 0, none⟩) D D) D ((rows ++ [r]).map Tr.sv ++ List.replicate (D - (i + 1)) (.slice none 0 0)) by rw [List.map_append, List.append_assoc]; exact H9.out)
              have X5 := Lib.hid (show wr.ownsRow g9 84 1 (.slice (some ⟨g9 + 1, 0, none⟩) D D) D ((rows ++ [r]).map Tr.cv ++ List.replicate (D - (i + 1)) (.slice none 0 0)) by rw [List.map_append, List.append_assoc]; exact H10.out)
              have X6 := Lib.hid (show pw * k = k ^ (i + 1) by rw [HPW.out, Nat.pow_succ])
              have X7 := Lib.hid (hkp.tr hkq)
              clear hall hmb
              go_wp2_with fail
              go_roundw
              case rel => exact ⟨i + 1, pw * k, rows ++ [r], by omega, by go_num, by simp, X6.out, X3.out, X4.out, X5.out, X2.out, X1.out, X7.out⟩
              case measure => simp [intOf]; omega
        · obtain rfl : i = D := by omega
          obtain ⟨all, hall⟩ : ∃ all, all = allC xs ys := ⟨_, rfl⟩
          have hrows : rows.map (fun r => r.chs.map Ch.c) = all := by
            rw [HCS.out, hall, List.take_of_length_le (by have := HD.out; omega), HF.out, HTS.out]
            rfl
          have heach : ∀ cs ∈ all, cs.length = M := by rw [hall, HMT.out]; exact allC_each xs ys
          have hal : all.length = i := by rw [← hrows, List.length_map, HRL.out]
          obtain ⟨z1, z2, gx, gy⟩ := chk_zero HE.out
          have hfacts : ∀ cs ∈ all, ∀ x ∈ cs, 0 ≤ x.cost ∧ x.cost ≤ 560000000 ∧ x.stops.length ≤ 14 := by rw [hall]; exact (allC_facts z1 (by omega) gx gy).1
          have hT9 := H9.out
          have hT10 := H10.out
          rw [Nat.sub_self, List.replicate_zero, List.append_nil] at hT9 hT10
          have HTO := Lib.hid (show ∀ p kk, p < i → kk < M → TS[kk]? = some ((all.getD p []).getD kk default).to from fun p kk hp hk => by
            obtain ⟨f, hf⟩ : ∃ f, (divs xs)[p]? = some f := ⟨_, List.getElem?_eq_getElem (by rw [← HF.out, ← HD.out]; exact hp)⟩
            obtain ⟨t, ht⟩ : ∃ t, (tos ys)[kk]? = some t := ⟨_, List.getElem?_eq_getElem (by rw [← HMT.out]; exact hk)⟩
            rw [hall, HTS.out, ht]
            unfold allC chos
            rw [List.getD_eq_getElem?_getD, List.getD_eq_getElem?_getD, List.getElem?_map, hf]
            show some t = some (((List.map (cho xs ys (f : Int)) (tos ys))[kk]?.getD default).to)
            rw [List.getElem?_map, ht]
            rfl)
          have HTAB := Lib.hid (fun (p kk : Nat) (hp : p < i) (hk : kk < M) => tab_read hT9 hT10 HOK.out hrows heach HRL.out hp hk)
          have htup : ∀ nn, ∀ x ∈ tupN all M nn, ∃ cs ∈ all, x ∈ cs := fun nn x hx => by
            obtain ⟨p, hp, rfl⟩ := List.mem_map.1 hx
            have hp := List.mem_range.1 hp
            refine ⟨all[p], List.getElem_mem hp, ?_⟩
            unfold pickC
            have hMM : nn / M ^ (all.length - 1 - p) % M < M := Nat.mod_lt _ (by omega)
            have hl := heach all[p] (List.getElem_mem hp)
            have e : all.getD p [] = all[p] := by simp [hp]
            rw [e, List.getD_eq_getElem?_getD, List.getElem?_eq_getElem (by omega)]
            exact List.getElem_mem _
          have HTF := Lib.hid (fun nn x (hx : x ∈ tupN all M nn) => (show 0 ≤ x.cost ∧ x.cost ≤ 560000000 ∧ x.stops.length ≤ 14 by obtain ⟨cs, hcs, hxc⟩ := htup nn x hx; exact hfacts cs hcs x hxc))
          have HFA := Lib.hid (show foundN all M pw = R by rw [HPW.out, HRr.out, ← hall, ← hal]; exact foundN_all heach)
          have HAL := Lib.hid hal
          have hm23 := fun w => make_ints i (by omega) w
          have hkw6 : Kp No w wr := hk0W.trans hkp fun g hg e => by omega
          clear hall hrows heach hal gx gy hfacts hT9 hT10 htup hD0 hlt
          go_wp2_with fail
          obtain ⟨w6, rfl⟩ : ∃ w6 : World, w6 = wr := ⟨_, rfl⟩
          obtain ⟨o, ho⟩ : ∃ o, o = w6.heap.size := ⟨_, rfl⟩
          obtain ⟨w7, hw7⟩ : ∃ w7, w7 = w6.alloc (.cells #[.slice a2 i c2, .slice none 0 0, .slice none 0 0, .int .i64 (-1)] 51) := ⟨_, rfl⟩
          rw [← hw7, ← ho]
          have hk67 : Kp No w6 w7 := by rw [hw7]; exact Kp.alloc _ _ _
          have hbo : w7.heap[o]? = some (.cells #[.slice a2 i c2, .slice none 0 0, .slice none 0 0, .int .i64 (-1)] 51 (0, 0)) := by rw [hw7, ho]; exact heap_alloc_new _ _
          have ho1 : o ≤ w6.heap.size ∧ w6.heap.size ≤ o ∧ o < w7.heap.size := ⟨by omega, by omega, (Array.getElem?_eq_some_iff.1 hbo).1⟩
          have HBO := Lib.hid hbo
          clear ho hw7 hbo
          go_loopw [17] (fun vn wr => ∃ (nn : Nat) (vT vS : Value), nn ≤ pw ∧ vn = .int .i64 nn ∧ wr.heap[o]? = some (.cells #[.slice a2 i c2, vT, vS, .int .i64 (foundN all M nn).cost] 51 (0, 0)) ∧ wr.ownsRow (o + 1) 3 1 vT (foundN all M nn).to.length ((foundN all M nn).to.map (Value.int .i64)) ∧ wr.ownsRow (o + 1) 3 1 vS (foundN all M nn).stops.length ((foundN all M nn).stops.map natV) ∧ Kp (fun k => k = o) w7 wr) (fun vn _ => pw - (intOf vn).toNat)
          case atStart => exact ⟨0, _, _, by omega, rfl, HBO.out, ⟨rfl, .inl ⟨rfl, rfl⟩⟩, ⟨rfl, .inl ⟨rfl, rfl⟩⟩, Kp.refl _ _⟩
          case round =>
            obtain ⟨nn, vT, vS, hnn, rfl, hbo, hT, hS, hkp7⟩ := hrel
            have hk6r : Kp No w6 wr := hk67.trans hkp7 fun k hk e => by omega
            have hsz7 := hkp7.size
            have HBO2 := Lib.hid hbo
            have HVT := Lib.hid hT
            have HVS := Lib.hid hS
            have hof := (Array.getElem?_eq_some_iff.1 hbo).1
            clear hbo hT hS
            by_cases hltn : nn < pw
            · obtain ⟨T, hTd⟩ : ∃ T, T = tupN all M nn := ⟨_, rfl⟩
              have hTl : T.length = i := by rw [hTd, tupN_len]; exact HAL.out
              have HTB := Lib.hid (show ∀ x ∈ T, 0 ≤ x.cost ∧ x.cost ≤ 560000000 ∧ x.stops.length ≤ 14 from fun x hx => HTF.out nn x (by rw [← hTd]; exact hx))
              obtain ⟨s, hs⟩ : ∃ s, s = foundN all M nn := ⟨_, rfl⟩
              have HSN := Lib.hid (show foundN all M (nn + 1) = stepR s T by rw [foundN_succ, ← hs, ← hTd])
              rw [← hs] at HBO2 HVT HVS
              have HTD := Lib.hid hTd
              have HTL := Lib.hid hTl
              clear hTd hTl hs
              go_wp2_with fail
              obtain ⟨gl, hgl⟩ : ∃ g, g = wr.heap.size := ⟨_, rfl⟩
              obtain ⟨wl, hwl⟩ : ∃ wl, wl = wr.alloc (.cells (Array.replicate i (Value.int .i64 0)) 3) := ⟨_, rfl⟩
              rw [← hwl, ← hgl]
              have hkl : Kp No wr wl := by rw [hwl]; exact Kp.alloc _ _ _
              have hl0 : wl.ownsRow gl 3 1 (.slice (some ⟨gl, 0, none⟩) i i) i (List.replicate i (Value.int .i64 0)) := by
                have h := own_made (base := gl) (e := 3) (s := 1) (n := i) (xs := List.replicate i (Value.int .i64 0)) wr (by simp) (by omega) (by unfold maxLen; omega)
                rw [List.toArray_replicate, ← hgl] at h
                rw [hwl]
                exact h
              have hzl : wl.heap.size = gl + 1 := by rw [hwl, hgl]; simp
              have hzl1 : gl + 1 ≤ wl.heap.size := by omega
              have hzl2 : wl.heap.size ≤ gl + 1 := by omega
              have hgl1 : w7.heap.size ≤ gl := by omega
              have hgl2 : wr.heap.size ≤ gl := by omega
              have hk6l : Kp No w6 wl := hk6r.no hkl
              have HL0 := Lib.hid hl0
              clear hwl hl0 hzl hgl
              obtain ⟨wq, rfl⟩ : ∃ wq : World, wq = wr := ⟨_, rfl⟩
              go_loopw [19, 20, 21, 22] (fun vr vs vc vi wr => ∃ (p q : Nat) (x : Int), p ≤ i ∧ vi = .int .i64 x ∧ x = (p : Int) - 1 ∧ vr = .int .i64 (q : Int) ∧ q = nn / M ^ (i - p) ∧ vs = .int .i64 (totC (T.drop p)) ∧ wr.ownsRow wl.heap.size 3 1 vc ((T.drop p).reverse.flatMap Cc.stops).length (((T.drop p).reverse.flatMap Cc.stops).map natV) ∧ wr.ownsRow gl 3 1 (.slice (some ⟨gl, 0, none⟩) i i) i (List.replicate p (Value.int .i64 0) ++ (T.drop p).map fun x => Value.int .i64 x.to) ∧ Kp (fun k => k = gl) wl wr) (fun _ _ _ vi _ => (intOf vi + 1).toNat)
              case atStart =>
                have e : T.drop i = [] := List.drop_of_length_le (by rw [HTL.out]; omega)
                exact ⟨i, nn, (i : Int) - 1, by omega, rfl, rfl, rfl, by simp, by rw [e]; rfl, by rw [e]; exact ⟨rfl, .inl ⟨rfl, rfl⟩⟩, by rw [e]; simpa using HL0.out, Kp.refl _ _⟩
              case round =>
                obtain ⟨p, q, x0, hp, rfl, hx0, rfl, hq, rfl, hc, hl, hkv⟩ := hrel
                have HC := Lib.hid hc
                have HL := Lib.hid hl
                have HQ := Lib.hid hq
                clear hc hl hq
                have hszv := hkv.size
                have hk6v : Kp No w6 wr := hk6l.trans hkv fun g hg e => by have e : g = gl := e; omega
                by_cases hp0 : 0 < p
                · obtain ⟨j, rfl⟩ : ∃ j, p = j + 1 := ⟨p - 1, by omega⟩
                  obtain rfl : x0 = (j : Int) := by omega
                  obtain ⟨c, hcd⟩ : ∃ c, c = pickC all M nn j := ⟨_, rfl⟩
                  have hdr : T.drop j = c :: T.drop (j + 1) := by rw [hcd, HTD.out]; exact drop_tup (by rw [HAL.out]; omega)
                  have hcT : c ∈ T := List.mem_of_mem_drop (i := j) (by rw [hdr]; simp)
                  obtain ⟨hb0, hb1, hb2⟩ := HTB.out c hcT
                  obtain ⟨kk, hkk⟩ : ∃ kk, kk = q % M := ⟨_, rfl⟩
                  obtain ⟨q2, hq2⟩ : ∃ q2, q2 = q / M := ⟨_, rfl⟩
                  have hkM : kk < M := by rw [hkk]; exact Nat.mod_lt _ (by omega)
                  have hcc : (all.getD j []).getD kk default = c := by rw [hcd, hkk, HQ.out]; unfold pickC; rw [HAL.out, show i - 1 - j = i - (j + 1) by omega]
                  obtain ⟨r, xc, gs, gc, hxc, hcl⟩ := HTAB.out j kk (by omega) hkM
                  rw [hcc] at hxc
                  have hlt6 : ∀ {ad v}, w6.cell? ad = some v → ad.block < w6.heap.size := fun h => World.block_lt_of_cell? w6 _ h
                  have b1 := hlt6 (hcl w6 (Kp.refl _ _)).1
                  have b2 := hlt6 (hcl w6 (Kp.refl _ _)).2.1
                  have b3 := hlt6 (hcl w6 (Kp.refl _ _)).2.2.1
                  have b4 := hlt6 (hcl w6 (Kp.refl _ _)).2.2.2.1
                  replace b1 : g9 < w6.heap.size := b1
                  replace b2 : gs < w6.heap.size := b2
                  replace b3 : g9 + 1 < w6.heap.size := b3
                  replace b4 : gc < w6.heap.size := b4
                  have n1 : gl ≠ g9 := by omega
                  have n2 : gl ≠ gs := by omega
                  have n3 : gl ≠ g9 + 1 := by omega
                  have n4 : gl ≠ gc := by omega
                  have n1' := n1.symm
                  have n2' := n2.symm
                  have n3' := n3.symm
                  have n4' := n4.symm
                  obtain ⟨c1, c2', c3, c4, c5⟩ := hcl wr hk6v
                  rw [hxc] at c2' c4
                  have hTk := HTO.out j kk (by omega) hkM
                  rw [hcc] at hTk
                  have cT : wr.cell? ⟨gt, kk, none⟩ = some (.int .i64 c.to) := Go.Kq.own_cell (hk6v.owns HTI.out fun _ _ h => h) (by rw [List.getElem?_map, hTk]; rfl)
                  have ht1 : (q : Int).tmod (M : Int) = (kk : Int) := by rw [hkk]; rfl
                  have ht2 : (q : Int).tdiv (M : Int) = (q2 : Int) := by rw [hq2]; rfl
                  have hq20 : q2 = nn / M ^ (i - j) := by rw [hq2, HQ.out, Nat.div_div_eq_div_mul, ← Nat.pow_succ, show (i - (j + 1)).succ = i - j by omega]
                  have hMne : ((M : Int) == 0) = false := by rw [beq_eq_false_iff_ne]; omega
                  have hMn1 : ((M : Int) == -1) = false := by rw [beq_eq_false_iff_ne]; omega
                  have hqb : q ≤ 2401 := by rw [HQ.out]; exact Nat.le_trans (Nat.div_le_self _ _) (by omega)
                  have hqb2 : q2 ≤ 2401 := by rw [hq2]; exact Nat.le_trans (Nat.div_le_self _ _) hqb
                  obtain ⟨S1, hS1⟩ : ∃ S, S = totC (T.drop (j + 1)) := ⟨_, rfl⟩
                  have hS1b := totC_bd (T := T.drop (j + 1)) fun x hx => by have := HTB.out x (List.mem_of_mem_drop hx); omega
                  have hdl1 : (T.drop (j + 1)).length ≤ 4 := by rw [List.length_drop, HTL.out]; omega
                  rw [← hS1] at hS1b
                  have hS1a : 0 ≤ S1 := hS1b.1
                  have hS1c : S1 ≤ 2240000000 := by omega
                  have htS : totC (T.drop j) = S1 + c.cost := by rw [hdr, hS1]; simp only [totC]; omega
                  obtain ⟨St, hSt⟩ : ∃ S, S = (T.drop (j + 1)).reverse.flatMap Cc.stops := ⟨_, rfl⟩
                  have hfS : (T.drop j).reverse.flatMap Cc.stops = St ++ c.stops := by rw [hdr, hSt, List.reverse_cons, List.flatMap_append]; simp
                  have hSl : St.length ≤ 56 := by
                    rw [hSt]
                    have := rev_stops_len (T := T.drop (j + 1)) fun x hx => (HTB.out x (List.mem_of_mem_drop hx)).2.2
                    omega
                  have hC1 := HC.out
                  rw [← hSt] at hC1
                  obtain ⟨av, cv, rfl, _⟩ := Go.Kq.own_form hC1
                  have HC1 := Lib.hid hC1
                  obtain ⟨ro, hro⟩ : ∃ ro, ro = List.replicate (j + 1) (Value.int .i64 0) ++ (T.drop (j + 1)).map fun x => Value.int .i64 x.to := ⟨_, rfl⟩
                  have hL1 := HL.out
                  rw [← hro] at hL1
                  have cL : wr.cell? ⟨gl, j, none⟩ = some (.int .i64 0) := Go.Kq.own_cell hL1 (by rw [hro, List.getElem?_append_left (by simp), List.getElem?_replicate, if_pos (by omega)])
                  have fL : wr.frozen? ⟨gl, j, none⟩ = false := Go.Kq.own_free hL1 j
                  have HLS := Lib.hid (show ro.set j (Value.int .i64 c.to) = List.replicate j (Value.int .i64 0) ++ (T.drop j).map fun x => Value.int .i64 x.to by
                    rw [hro, hdr, List.replicate_succ', List.append_assoc, List.set_append_right _ _ (by simp), List.length_replicate, Nat.sub_self]
                    rfl)
                  have HL1 := Lib.hid hL1
                  have HC5 := Lib.hid c5
                  have HXC := Lib.hid hxc
                  have HC6 := Lib.hid (hcl w6 (Kp.refl _ _)).2.2.2.2
                  have hjn : (j : Int) < (i : Int) := by omega
                  rw [← hS1]
                  have HfS := Lib.hid hfS
                  have HtS := Lib.hid htS
                  have HQ2 := Lib.hid hq20
                  clear hx0 hcl hcc hdr hcd hkk hq2 hq20 hTk hC1 hL1 hro hSt hS1 hS1b HC HL HQ hfS htS c5 b1 b2 b3 b4 hxc
                  go_wp2_with (at_builtin; refine stop_in ?_)
                  obtain ⟨wx, hwx⟩ : ∃ wx, wx = wr.setCell ⟨gl, j, none⟩ (.int .i64 c.to) := ⟨_, rfl⟩
                  rw [← hwx]
                  have kx : Kp (Kq.One gl) wr wx := by rw [hwx]; exact kp_setOne _ _ _ _
                  have HLX := Lib.hid (show wx.ownsRow gl 3 1 (.slice (some ⟨gl, 0, none⟩) i i) i (List.replicate j (.int .i64 0) ++ (T.drop j).map fun x => Value.int .i64 x.to) by rw [hwx, ← HLS.out]; exact Go.Kq.own_set HL1.out j _)
                  have HCX := Lib.hid (kx.owns HC1.out fun g hg e => by have e : g = gl := e; have := (Go.Kq.own_ge HC1.out hg).1; omega)
                  have hk6x : Kp No w6 wx := hk6v.trans kx fun g hg e => by have e : g = gl := e; omega
                  have hx5 : wx.ownsRow g9 3 1 (.slice xc.a c.stops.length xc.cap) c.stops.length (c.stops.map natV) := by
                    have h : w6.ownsRow g9 3 1 xc.sl xc.c.stops.length (xc.c.stops.map natV) := HC6.out
                    unfold Ch.sl at h
                    rw [HXC.out] at h
                    exact hk6x.owns h fun _ _ h => h
                  have HN := Lib.hid (own_news hx5)
                  have hszx := kx.size
                  clear hwx hx5 c1 c2' c3 c4 cT cL fL HLS HL1 HC1
                  refine stop_out ?_
                  refine wpL_append_any rfl _ _ 23 rfl wl.heap.size 3 i0 (.int .i64 0) 1 8 Try.underlying23 hi0 hz0 hz1 hz2 rfl (by decide) (.slice av St.length cv) St.length (St.map natV) rfl HCX.out xc.a c.stops.length xc.cap (c.stops.map natV) rfl (by simp) HN.out.1 HN.out.2 (fun u hu => by obtain ⟨x, _, rfl⟩ := List.mem_map.1 hu; rfl) (by unfold maxLen; omega) (by omega) (by omega) ?_
                  intro vt w9 hown hgrow hat
                  have k9 : Kp (fun g => wl.heap.size ≤ g) wx w9 := Kp.grown hgrow fun g hg _ => (Go.Kq.own_ge HCX.out hg).1
                  have HL9 := Lib.hid (k9.owns HLX.out fun g hg e => by have hg : some gl = some g := hg; injection hg with hg; have e : wl.heap.size ≤ g := e; omega)
                  have hk9 : Kp (fun k => k = gl) wl w9 := (hkv.tr kx).trans k9 fun g hg e => by have e : wl.heap.size ≤ g := e; omega
                  rw [← List.map_append, ← List.length_append, ← HfS.out] at hown
                  have HOWN := Lib.hid hown
                  clear hown hgrow hat
                  go_wp2_with fail
                  go_roundw
                  case rel => exact ⟨j, q2, _, by omega, rfl, rfl, rfl, HQ2.out, by rw [HtS.out], HOWN.out, HL9.out, hk9⟩
                  case measure => simp [intOf]
                · obtain rfl : p = 0 := by omega
                  have hx1 : x0 = -1 := by omega
                  subst hx1
                  clear hx0
                  have hC1 := HC.out
                  have hL1 := HL.out
                  rw [List.drop_zero] at hC1 hL1 ⊢
                  rw [List.replicate_zero, List.nil_append] at hL1
                  obtain ⟨av, cv, rfl, _⟩ := Go.Kq.own_form hC1
                  have hrdT : RdI wr (some ⟨gl, 0, none⟩) i (T.map Cc.to) := own_rdi_int (cap := i) (base := gl) (by rw [List.map_map]; exact hL1)
                  have hqr : Kp No wq wr := hkl.trans hkv fun g hg e => by have e : g = gl := e; omega
                  have HCT := Lib.hid hC1
                  have HLT := Lib.hid hL1
                  have HRT := Lib.hid hrdT
                  have HB9 := Lib.hid (hqr.heap HBO2.out id)
                  have HT9 := Lib.hid (hqr.owns HVT.out fun _ _ h => h)
                  have HS9 := Lib.hid (hqr.owns HVS.out fun _ _ h => h)
                  have hk79 : Kp (fun k => k = o) w7 wr := hkp7.no hqr
                  have hSl : (T.reverse.flatMap Cc.stops).length ≤ 100 := by
                    have := rev_stops_len (T := T) fun x hx => (HTB.out x hx).2.2
                    have := HTL.out
                    omega
                  have hap2 := (apart_okS T).symm
                  rw [HTL.out] at hap2
                  clear hC1 hL1 hrdT HC HL HQ
                  generalize hrl : T.reverse.flatMap Cc.stops = CH at HCT hSl ⊢
                  have HCH := Lib.hid (show srt CH = srt (T.flatMap Cc.stops) by rw [← hrl]; exact srt_rev T)
                  clear hrl
                  clear hag hiD z1 z2 hm23 hi23 hy230 hy231 hy232 hi2 hx20 hx21 hx22 hi83 hy830 hy831 hy832 hi84 hy840 hy841 hy842 hkp hszi hkw6 hk67 hzl2 hk6l hkp7 hk6r hkl hkv hk6v hp hp0 hqr hk02 hk05 hM1 htl hzW1 hzW2 hk0W hgt9 hw9 hx hy HTO HTF HFA HAL HE HRr HF HF6 HTB
                  cases hap : apart [] T
                  · rw [hap] at hap2
                    have HST := Lib.hid (show foundN all M (nn + 1) = s by rw [HSN.out]; unfold stepR; rw [hap]; rfl)
                    clear hap
                    go_wp2_with fail
                    refine (twice_any (some ⟨gl, 0, none⟩) i i (T.map Cc.to) wr HRT.out (by omega)).mono ?_
                    rw [hap2]
                    rintro e w10 ⟨rfl, hk10⟩
                    go_wp2_with fail
                    go_roundw
                    case rel => exact ⟨nn + 1, vT, vS, by omega, by go_num, by rw [HST.out]; exact hk10.heap HB9.out id, by rw [HST.out]; exact hk10.owns HT9.out fun _ _ h => h, by rw [HST.out]; exact hk10.owns HS9.out fun _ _ h => h, hk79.no hk10⟩
                    case measure => simp [intOf]; omega
                  · rw [hap] at hap2
                    have hcase : decide (s.cost < 0) = true ∨ (decide (s.cost < 0) = false ∧ decide (totC T < s.cost) = true) ∨ (decide (s.cost < 0) = false ∧ decide (totC T < s.cost) = false) := by
                      simp only [decide_eq_true_eq, decide_eq_false_iff_not]
                      omega
                    rcases hcase with d1 | ⟨d1, d2⟩ | ⟨d1, d2⟩
                    · have HST := Lib.hid (show foundN all M (nn + 1) = ⟨totC T, T.map Cc.to, srt (T.flatMap Cc.stops)⟩ by rw [HSN.out]; unfold stepR updR; rw [hap, if_pos rfl, if_pos (.inl (of_decide_eq_true d1))])
                      clear hap
                      go_wp2_with fail
                      refine (twice_any (some ⟨gl, 0, none⟩) i i (T.map Cc.to) wr HRT.out (by omega)).mono ?_
                      rw [hap2]
                      rintro e w10 ⟨rfl, hk10⟩
                      have hb10 := hk10.heap HB9.out id
                      have q1 : w10.cell? ⟨o, 1, none⟩ = some vT := cell_heap hb10 1
                      have q2 : w10.cell? ⟨o, 2, none⟩ = some vS := cell_heap hb10 2
                      have q3 : w10.cell? ⟨o, 3, none⟩ = some (.int .i64 s.cost) := cell_heap hb10 3
                      have f1 := free_heap hb10 1
                      have f2 := free_heap hb10 2
                      have f3 := free_heap hb10 3
                      have HB10 := Lib.hid hb10
                      have HC10 := Lib.hid (hk10.owns HCT.out fun _ _ h => h)
                      have HL10 := Lib.hid (hk10.owns HLT.out fun _ _ h => h)
                      clear hb10
                      go_wp2_with fail
                      obtain ⟨wu, hwu⟩ : ∃ wu, wu = (w10.setCell ⟨o, 1, none⟩ (.slice (some ⟨gl, 0, none⟩) i i)).setCell ⟨o, 3, none⟩ (.int .i64 (totC T)) := ⟨_, rfl⟩
                      rw [← hwu]
                      have hbu : wu.heap[o]? = some (.cells #[.slice a2 i c2, .slice (some ⟨gl, 0, none⟩) i i, vS, .int .i64 (totC T)] 51 (0, 0)) := by
                        have h := HB10.out
                        rw [hwu]
                        simp [World.setCell, Array.getElem?_modify, h]
                      have ku : Kp (Kq.One o) w10 wu := by rw [hwu]; exact (kp_setOne _ _ _ _).tr (kp_setOne _ _ _ _)
                      have hcu := ku.owns HC10.out fun g hg e => by have e : g = o := e; have := (Go.Kq.own_ge HC10.out hg).1; omega
                      have hlu := ku.owns HL10.out fun g hg e => by have e : g = o := e; have hg : some gl = some g := hg; injection hg with hg; omega
                      have hru : RdI wu av CH.length (CH.map Int.ofNat) := own_rdi_int (cap := cv) (base := wl.heap.size) (by rw [List.map_map]; exact hcu)
                      have HRU := Lib.hid hru
                      have HBU := Lib.hid hbu
                      have HLU := Lib.hid hlu
                      have hszu := ku.size
                      have hsz10 := hk10.size
                      clear q1 q2 q3 f1 f2 f3 hwu hbu hcu hlu hru
                      refine (sorted_any2 av CH.length cv CH wu HRU.out hSl).mono ?_
                      rintro e w11 ⟨v11, rfl, ho11, hk11⟩
                      have hb11 := hk11.heap HBU.out id
                      have q2 : w11.cell? ⟨o, 2, none⟩ = some vS := cell_heap hb11 2
                      have f2 := free_heap hb11 2
                      have HB11 := Lib.hid hb11
                      rw [HCH.out] at ho11
                      have HO11 := Lib.hid ho11
                      have HL11 := Lib.hid (hk11.owns HLU.out fun _ _ h => h)
                      obtain ⟨a11, c11, rfl, _⟩ := Go.Kq.own_form ho11
                      clear hb11 ho11
                      go_wp2_with fail
                      go_roundw
                      case rel =>
                        have k12 := kp_setOne w11 o 2 (.slice a11 (srt (T.flatMap Cc.stops)).length c11)
                        refine ⟨nn + 1, .slice (some ⟨gl, 0, none⟩) i i, .slice a11 (srt (T.flatMap Cc.stops)).length c11, by omega, by go_num, ?_, ?_, ?_, ((hk79.no hk10).tr (ku.mono fun g _ e => e)).no hk11 |>.tr (k12.mono fun g _ e => e)⟩
                        · have h := HB11.out
                          rw [HST.out]
                          simp [World.setCell, Array.getElem?_modify, h]
                        · rw [HST.out]
                          have h := k12.owns HL11.out fun g hg e => by have e : g = o := e; have hg : some gl = some g := hg; injection hg with hg; omega
                          have h2 := Go.Kq.own_mono h (base' := o + 1) (by omega)
                          show World.ownsRow _ _ _ _ _ (T.map Cc.to).length ((T.map Cc.to).map (Value.int .i64))
                          rw [List.map_map, List.length_map, HTL.out]
                          exact h2
                        · rw [HST.out]
                          exact Go.Kq.own_mono (k12.owns HO11.out fun g hg e => by have e : g = o := e; have := (Go.Kq.own_ge HO11.out hg).1; omega) (by omega)
                      case measure => simp [intOf]; omega
                    · have HST := Lib.hid (show foundN all M (nn + 1) = ⟨totC T, T.map Cc.to, srt (T.flatMap Cc.stops)⟩ by rw [HSN.out]; unfold stepR updR; rw [hap, if_pos rfl, if_pos (.inr (of_decide_eq_true d2))])
                      clear hap
                      go_wp2_with fail
                      refine (twice_any (some ⟨gl, 0, none⟩) i i (T.map Cc.to) wr HRT.out (by omega)).mono ?_
                      rw [hap2]
                      rintro e w10 ⟨rfl, hk10⟩
                      have hb10 := hk10.heap HB9.out id
                      have q1 : w10.cell? ⟨o, 1, none⟩ = some vT := cell_heap hb10 1
                      have q2 : w10.cell? ⟨o, 2, none⟩ = some vS := cell_heap hb10 2
                      have q3 : w10.cell? ⟨o, 3, none⟩ = some (.int .i64 s.cost) := cell_heap hb10 3
                      have f1 := free_heap hb10 1
                      have f2 := free_heap hb10 2
                      have f3 := free_heap hb10 3
                      have HB10 := Lib.hid hb10
                      have HC10 := Lib.hid (hk10.owns HCT.out fun _ _ h => h)
                      have HL10 := Lib.hid (hk10.owns HLT.out fun _ _ h => h)
                      clear hb10
                      go_wp2_with fail
                      obtain ⟨wu, hwu⟩ : ∃ wu, wu = (w10.setCell ⟨o, 1, none⟩ (.slice (some ⟨gl, 0, none⟩) i i)).setCell ⟨o, 3, none⟩ (.int .i64 (totC T)) := ⟨_, rfl⟩
                      rw [← hwu]
                      have hbu : wu.heap[o]? = some (.cells #[.slice a2 i c2, .slice (some ⟨gl, 0, none⟩) i i, vS, .int .i64 (totC T)] 51 (0, 0)) := by
                        have h := HB10.out
                        rw [hwu]
                        simp [World.setCell, Array.getElem?_modify, h]
                      have ku : Kp (Kq.One o) w10 wu := by rw [hwu]; exact (kp_setOne _ _ _ _).tr (kp_setOne _ _ _ _)
                      have hcu := ku.owns HC10.out fun g hg e => by have e : g = o := e; have := (Go.Kq.own_ge HC10.out hg).1; omega
                      have hlu := ku.owns HL10.out fun g hg e => by have e : g = o := e; have hg : some gl = some g := hg; injection hg with hg; omega
                      have hru : RdI wu av CH.length (CH.map Int.ofNat) := own_rdi_int (cap := cv) (base := wl.heap.size) (by rw [List.map_map]; exact hcu)
                      have HRU := Lib.hid hru
                      have HBU := Lib.hid hbu
                      have HLU := Lib.hid hlu
                      have hszu := ku.size
                      have hsz10 := hk10.size
                      clear q1 q2 q3 f1 f2 f3 hwu hbu hcu hlu hru
                      refine (sorted_any2 av CH.length cv CH wu HRU.out hSl).mono ?_
                      rintro e w11 ⟨v11, rfl, ho11, hk11⟩
                      have hb11 := hk11.heap HBU.out id
                      have q2 : w11.cell? ⟨o, 2, none⟩ = some vS := cell_heap hb11 2
                      have f2 := free_heap hb11 2
                      have HB11 := Lib.hid hb11
                      rw [HCH.out] at ho11
                      have HO11 := Lib.hid ho11
                      have HL11 := Lib.hid (hk11.owns HLU.out fun _ _ h => h)
                      obtain ⟨a11, c11, rfl, _⟩ := Go.Kq.own_form ho11
                      clear hb11 ho11
                      go_wp2_with fail
                      go_roundw
                      case rel =>
                        have k12 := kp_setOne w11 o 2 (.slice a11 (srt (T.flatMap Cc.stops)).length c11)
                        refine ⟨nn + 1, .slice (some ⟨gl, 0, none⟩) i i, .slice a11 (srt (T.flatMap Cc.stops)).length c11, by omega, by go_num, ?_, ?_, ?_, ((hk79.no hk10).tr (ku.mono fun g _ e => e)).no hk11 |>.tr (k12.mono fun g _ e => e)⟩
                        · have h := HB11.out
                          rw [HST.out]
                          simp [World.setCell, Array.getElem?_modify, h]
                        · rw [HST.out]
                          have h := k12.owns HL11.out fun g hg e => by have e : g = o := e; have hg : some gl = some g := hg; injection hg with hg; omega
                          have h2 := Go.Kq.own_mono h (base' := o + 1) (by omega)
                          show World.ownsRow _ _ _ _ _ (T.map Cc.to).length ((T.map Cc.to).map (Value.int .i64))
                          rw [List.map_map, List.length_map, HTL.out]
                          exact h2
                        · rw [HST.out]
                          exact Go.Kq.own_mono (k12.owns HO11.out fun g hg e => by have e : g = o := e; have := (Go.Kq.own_ge HO11.out hg).1; omega) (by omega)
                      case measure => simp [intOf]; omega
                    · have HST := Lib.hid (show foundN all M (nn + 1) = s by rw [HSN.out]; unfold stepR updR; rw [hap, if_pos rfl, if_neg (by simp only [decide_eq_false_iff_not] at d1 d2; omega)])
                      clear hap
                      go_wp2_with fail
                      refine (twice_any (some ⟨gl, 0, none⟩) i i (T.map Cc.to) wr HRT.out (by omega)).mono ?_
                      rw [hap2]
                      rintro e w10 ⟨rfl, hk10⟩
                      have q3 : w10.cell? ⟨o, 3, none⟩ = some (.int .i64 s.cost) := cell_heap (hk10.heap HB9.out id) 3
                      go_wp2_with fail
                      go_roundw
                      case rel => exact ⟨nn + 1, vT, vS, by omega, by go_num, by rw [HST.out]; exact hk10.heap HB9.out id, by rw [HST.out]; exact hk10.owns HT9.out fun _ _ h => h, by rw [HST.out]; exact hk10.owns HS9.out fun _ _ h => h, hk79.no hk10⟩
                      case measure => simp [intOf]; omega
            · obtain rfl : nn = pw := by omega
              rw [HFA.out] at HBO2 HVT HVS
              obtain ⟨aT, cT, rfl, _⟩ := Go.Kq.own_form HVT.out
              obtain ⟨aS, cS, rfl, _⟩ := Go.Kq.own_form HVS.out
              have hb5 := hk6r.heap (hkp.heap HBW.out (by omega)) id
              have ho5 := hk6r.owns (hkp.owns HOW.out fun g hg e => by have := hag g hg; omega) fun _ _ h => h
              have q0 : wr.cell? ⟨o, 0, none⟩ = some (.slice a2 i c2) := cell_heap HBO2.out 0
              have q1 : wr.cell? ⟨o, 1, none⟩ = some (.slice aT R.to.length cT) := cell_heap HBO2.out 1
              have q2 : wr.cell? ⟨o, 2, none⟩ = some (.slice aS R.stops.length cS) := cell_heap HBO2.out 2
              have q3 : wr.cell? ⟨o, 3, none⟩ = some (.int .i64 R.cost) := cell_heap HBO2.out 3
              have o0 : wr.cell? ⟨w.heap.size, 0, none⟩ = some (.slice none 0 0) := cell_heap hb5 0
              have o1 : wr.cell? ⟨w.heap.size, 1, none⟩ = some (.slice none 0 0) := cell_heap hb5 1
              have o2 : wr.cell? ⟨w.heap.size, 2, none⟩ = some (.slice none 0 0) := cell_heap hb5 2
              have o3 : wr.cell? ⟨w.heap.size, 3, none⟩ = some (.int .i64 0) := cell_heap hb5 3
              have f0 := free_heap hb5 0
              have f1 := free_heap hb5 1
              have f2 := free_heap hb5 2
              have f3 := free_heap hb5 3
              have HB5 := Lib.hid hb5
              have HO5 := Lib.hid ho5
              have hk05 : Kp No w wr := hkw6.no hk6r
              clear hb5 ho5
              go_wp2_with fail
              have hb9 := set4 (y0 := .slice a2 i c2) (y1 := .slice aT R.to.length cT) (y2 := .slice aS R.stops.length cS) (y3 := .int .i64 R.cost) HB5.out
              have hk9' := kp4 wr w.heap.size (.slice a2 i c2) (.slice aT R.to.length cT) (.slice aS R.stops.length cS) (.int .i64 R.cost)
              have hk9 : Kp No w _ := hk05.trans hk9' fun g hg e => by have e : g = w.heap.size := e; omega
              clear q0 q1 q2 q3 o0 o1 o2 o3 f0 f1 f2 f3
              generalize (((wr.setCell ⟨w.heap.size, 0, none⟩ (.slice a2 i c2)).setCell ⟨w.heap.size, 1, none⟩ (.slice aT R.to.length cT)).setCell ⟨w.heap.size, 2, none⟩ (.slice aS R.stops.length cS)).setCell ⟨w.heap.size, 3, none⟩ (.int .i64 R.cost) = w9 at hb9 hk9 hk9' ⊢
              have m1 := hk9'.owns HO5.out fun g hg e => by have e : g = w.heap.size := e; have := (Go.Kq.own_ge HO5.out hg).1; omega
              have m2 := hk9'.owns HVT.out fun g hg e => by have e : g = w.heap.size := e; have := (Go.Kq.own_ge HVT.out hg).1; omega
              have m3 := hk9'.owns HVS.out fun g hg e => by have e : g = w.heap.size := e; have := (Go.Kq.own_ge HVS.out hg).1; omega
              have hmm : RtM w.heap.size (.slice a2 i c2) (.slice aT R.to.length cT) (.slice aS R.stops.length cS) ⟨F, R, 0⟩ w9 := by
                refine ⟨?_, ?_, ?_⟩
                · show w9.ownsRow w.heap.size 3 1 (.slice a2 i c2) F.length (F.map natV)
                  rw [← HD.out]
                  exact Go.Kq.own_mono m1 (by omega)
                · exact Go.Kq.own_mono m2 (by omega)
                · exact Go.Kq.own_mono m3 (by omega)
              have HMM := Lib.hid hmm
              clear m1 m2 m3 hmm
              have p0 : w9.cell? ⟨w.heap.size, 0, none⟩ = some (.slice a2 i c2) := cell_heap hb9 0
              have p1 : w9.cell? ⟨w.heap.size, 1, none⟩ = some (.slice aT R.to.length cT) := cell_heap hb9 1
              have p2 : w9.cell? ⟨w.heap.size, 2, none⟩ = some (.slice aS R.stops.length cS) := cell_heap hb9 2
              have p3 : w9.cell? ⟨w.heap.size, 3, none⟩ = some (.int .i64 R.cost) := cell_heap hb9 3
              exact bodyPost_ret (v := .tuple #[.agg #[.slice a2 i c2, .slice aT R.to.length cT, .slice aS R.stops.length cS, .int .i64 R.cost], .int .i64 0]) (by simp [results, Try.results26, go_sem, p0, p1, p2, p3]) rfl ⟨_, _, _, rfl, HMM.out, hk9⟩
  · have hv : routeV xs ys = ⟨[], ⟨0, [], []⟩, chk xs ys 14⟩ := by unfold routeV; rw [if_pos he]
    rw [hv]
    have heb : (chk xs ys 14 == 0) = false := by rw [beq_eq_false_iff_ne]; exact he
    clear hv
    go_enter Try.func26, Try.ntmps26
    go_wp2_with fail
    refine (Check_any A Y n m ca cb xs ys 14 _ (hx.no (Kp.alloc _ _ _)) (hy.no (Kp.alloc _ _ _)) (by omega)).mono ?_
    rintro e w2 ⟨rfl, hk1⟩
    have hb := hk1.heap (heap_alloc_new w (.cells #[.slice none 0 0, .slice none 0 0, .slice none 0 0, .int .i64 0] 51)) id
    have HB := Lib.hid hb
    have o0 : w2.cell? ⟨w.heap.size, 0, none⟩ = some (.slice none 0 0) := cell_heap hb 0
    have o1 : w2.cell? ⟨w.heap.size, 1, none⟩ = some (.slice none 0 0) := cell_heap hb 1
    have o2 : w2.cell? ⟨w.heap.size, 2, none⟩ = some (.slice none 0 0) := cell_heap hb 2
    have o3 : w2.cell? ⟨w.heap.size, 3, none⟩ = some (.int .i64 0) := cell_heap hb 3
    have f0 := free_heap hb 0
    have f1 := free_heap hb 1
    have f2 := free_heap hb 2
    have f3 := free_heap hb 3
    clear hb
    go_wp2_with fail
    have hb9 := set4 (y0 := .slice none 0 0) (y1 := .slice none 0 0) (y2 := .slice none 0 0) (y3 := .int .i64 0) HB.out
    have hk9 := ((Kp.alloc No w (.cells #[.slice none 0 0, .slice none 0 0, .slice none 0 0, .int .i64 0] 51)).tr hk1).trans (kp4 w2 w.heap.size (.slice none 0 0) (.slice none 0 0) (.slice none 0 0) (.int .i64 0)) fun g hg e => by have e : g = w.heap.size := e; omega
    generalize (((w2.setCell ⟨w.heap.size, 0, none⟩ (.slice none 0 0)).setCell ⟨w.heap.size, 1, none⟩ (.slice none 0 0)).setCell ⟨w.heap.size, 2, none⟩ (.slice none 0 0)).setCell ⟨w.heap.size, 3, none⟩ (.int .i64 0) = w9 at hb9 hk9 ⊢
    have p0 : w9.cell? ⟨w.heap.size, 0, none⟩ = some (.slice none 0 0) := cell_heap hb9 0
    have p1 : w9.cell? ⟨w.heap.size, 1, none⟩ = some (.slice none 0 0) := cell_heap hb9 1
    have p2 : w9.cell? ⟨w.heap.size, 2, none⟩ = some (.slice none 0 0) := cell_heap hb9 2
    have p3 : w9.cell? ⟨w.heap.size, 3, none⟩ = some (.int .i64 0) := cell_heap hb9 3
    exact bodyPost_ret (v := .tuple #[.agg #[.slice none 0 0, .slice none 0 0, .slice none 0 0, .int .i64 0], .int .i64 (chk xs ys 14)]) (by simp [results, Try.results26, go_sem, p0, p1, p2, p3]) rfl ⟨_, _, _, rfl, rtm_nil _ _ _ _, hk9⟩
end Go.Proofs.Ytfflhlmnfhfcgaa
