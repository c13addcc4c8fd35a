/- Chapter 33: the walk of the reference's add. -/
import Derived.Test.YtfflhlmnfhfcgaaXLibAppM
namespace Go.Proofs.Ytfflhlmnfhfcgaa
open Go.RowKit Go.Kq

theorem addC_ins (c : Vc) : ∀ (ls : List Vc) (k : Nat), (∀ (j : Nat) v, j < k → ls[j]? = some v → Bef v c) → k ≤ ls.length → (∀ x, ls[k]? = some x → ¬ Bef x c ∧ Bef c x) → addC c ls = ls.take k ++ c :: ls.drop k
  | [], k, _, hk, _ => by
    have : k = 0 := by simpa using hk
    subst this
    rfl
  | x :: l, 0, _, _, hx => by
    obtain ⟨h1, h2⟩ := hx x rfl
    rw [addC, if_neg h1, if_pos h2]
    rfl
  | x :: l, k + 1, hb, hk, hx => by
    have h0 := hb 0 x (by omega) rfl
    rw [addC, if_pos h0, addC_ins c l k (fun j v hj hv => hb (j + 1) v (by omega) (by simpa using hv)) (by simpa using hk) (fun y hy => hx y (by simpa using hy))]
    rfl
theorem addC_set (c : Vc) : ∀ (ls : List Vc) (k : Nat) (x : Vc), (∀ (j : Nat) v, j < k → ls[j]? = some v → Bef v c) → ls[k]? = some x → ¬ Bef x c → ¬ Bef c x → addC c ls = ls.set k ⟨x.d, x.p, x.f, x.q + c.q⟩
  | [], k, x, _, h, _, _ => by simp at h
  | y :: l, 0, x, _, h, h1, h2 => by
    simp at h
    subst h
    rw [addC, if_neg h1, if_neg h2]
    rfl
  | y :: l, k + 1, x, hb, h, h1, h2 => by
    have h0 := hb 0 y (by omega) rfl
    rw [addC, if_pos h0, addC_set c l k x (fun j v hj hv => hb (j + 1) v (by omega) (by simpa using hv)) (by simpa using h) h1 h2]
    rfl
theorem own_cells {w : World} {base e n : Nat} {A : Option Addr} {cap : Nat} {vs : List Vc} (h : w.ownsRow base e 4 (.slice A n cap) n (flat vs)) (i : Nat) (u : Vc) (hu : vs[i]? = some u) :
    ∃ g, A = some ⟨g, 0, none⟩ ∧ base ≤ g ∧ g < w.heap.size ∧ i < n ∧ w.cell? ⟨g, i * 4, none⟩ = some (.int .i64 u.d) ∧ w.cell? ⟨g, i * 4 + 1, none⟩ = some (.int .i64 u.p) ∧ w.cell? ⟨g, i * 4 + 2, none⟩ = some (.int .i64 u.f) ∧ w.cell? ⟨g, i * 4 + 3, none⟩ = some (.int .i64 u.q) := by
  have hl := h.1
  rw [flat_len] at hl
  have hi := (List.getElem?_eq_some_iff.1 hu).1
  obtain ⟨a, c, hv, h1, h2, h3⟩ := own_form h
  cases hv
  obtain ⟨g, rfl⟩ := h3 (by omega)
  have hb := own_ge h (g := g) rfl
  obtain ⟨f0, f1, f2, f3⟩ := flat_at vs i u hu
  exact ⟨g, rfl, hb.1, hb.2, by omega, by rw [h.cellAt _ (by omega), f0], by rw [h.cellAt _ (by omega), f1], by rw [h.cellAt _ (by omega), f2], by rw [h.cellAt _ (by omega), f3]⟩
theorem info59 : (Try.prog.info? 59).map (fun i => (i.zero, i.size, i.bytes)) = some (some (.agg #[.int .i64 0, .int .i64 0, .int .i64 0, .int .i64 0]), 4, 32) := by kernel_rfl
theorem flat_append : ∀ (A B : List Vc), flat (A ++ B) = flat A ++ flat B
  | [], _ => rfl
  | a :: A, B => by simp [flat, flat_append A B]

theorem flat_split (ls : List Vc) (k : Nat) : flat ls = flat (ls.take k) ++ flat (ls.drop k) := by rw [← flat_append, List.take_append_drop]
theorem add_lit2 (g o j : Nat) : ((⟨g, o, none⟩ : Addr).add j) = ⟨g, o + j, none⟩ := by unfold Addr.add; split <;> simp_all
theorem news_take {w : World} {base n cap g : Nat} {ls : List Vc} (h : w.ownsRow base 59 4 (.slice (some ⟨g, 0, none⟩) n cap) n (flat ls)) (k : Nat) : ∀ j u, (flat (ls.take k))[j]? = some u → w.cell? ((⟨g, 0, none⟩ : Addr).add j) = some u := by
  intro j u hu
  have hl := h.1
  have hj := (List.getElem?_eq_some_iff.1 hu).1
  have e : (flat ls)[j]? = some u := by rw [flat_split ls k, List.getElem?_append_left hj, hu]
  have hj2 := (List.getElem?_eq_some_iff.1 e).1
  rw [add_lit2, Nat.zero_add, h.cellAt j (by omega), e]
theorem news_drop {w : World} {base n cap g : Nat} {ls : List Vc} (h : w.ownsRow base 59 4 (.slice (some ⟨g, 0, none⟩) n cap) n (flat ls)) (k : Nat) (hk : k ≤ ls.length) : ∀ j u, (flat (ls.drop k))[j]? = some u → w.cell? ((⟨g, k * 4, none⟩ : Addr).add j) = some u := by
  intro j u hu
  have hl := h.1
  have e : (flat ls)[k * 4 + j]? = some u := by
    rw [flat_split ls k, List.getElem?_append_right (by rw [flat_len]; simp; omega), flat_len, List.length_take, Nat.min_eq_left hk, Nat.add_sub_cancel_left, hu]
  have hj2 := (List.getElem?_eq_some_iff.1 e).1
  rw [add_lit2, h.cellAt _ (by omega), e]
theorem own_set {w : World} {base n cap g : Nat} {e : TypeId} {size : Nat} {xs : List Value} (h : w.ownsRow base e size (.slice (some ⟨g, 0, none⟩) n cap) n xs) (j : Nat) (u : Value) (_hj : j < n * size) : (w.setCell ⟨g, j, none⟩ u).ownsRow base e size (.slice (some ⟨g, 0, none⟩) n cap) n (xs.set j u) := by
  obtain ⟨hl, h2⟩ := h
  rcases h2 with ⟨h0, _⟩ | ⟨g', cap', cur, hv, hb, hg, h1, h2, h3, h4⟩
  · cases h0
  · cases hv
    refine ⟨by simpa using hl, .inr ⟨_, _, cur.setIfInBounds j u, rfl, hb, ?_, h1, h2, by simpa using h3, ?_⟩⟩
    · simp [World.setCell, Array.getElem?_modify, hg]
    · rw [Array.toList_setIfInBounds, List.take_set, h4]
theorem flat_set : ∀ (ls : List Vc) (k : Nat) (x : Vc) (q : Int), ls[k]? = some x → (flat ls).set (k * 4 + 3) (.int .i64 q) = flat (ls.set k ⟨x.d, x.p, x.f, q⟩)
  | [], k, x, q, h => by simp at h
  | y :: l, 0, x, q, h => by
    simp at h
    subst h
    rfl
  | y :: l, k + 1, x, q, h => by
    have := flat_set l k x q (by simpa using h)
    rw [show (k + 1) * 4 + 3 = k * 4 + 3 + 1 + 1 + 1 + 1 by omega]
    simp only [flat, List.set_cons_succ, this]
theorem own_empty (w : World) (base : Nat) (hb : base ≤ w.heap.size) : (w.alloc (.cells #[] 59)).ownsRow base 59 4 (.slice (some ⟨w.heap.size, 0, none⟩) 0 0) 0 [] :=
  ⟨rfl, .inr ⟨_, 0, #[], rfl, hb, heap_alloc_new w _, by omega, by unfold maxLen; omega, rfl, rfl⟩⟩
theorem new4c (w : World) (v : Vc) : ∀ j u, v.cells4[j]? = some u → (w.alloc (.cells #[.int .i64 v.d, .int .i64 v.p, .int .i64 v.f, .int .i64 v.q] 59)).cell? ((⟨w.heap.size, 0, none⟩ : Addr).add j) = some u := by
  intro j u hj
  unfold Vc.cells4 at hj
  rw [add_lit2, Nat.zero_add]
  match j, hj with
  | 0, hj => simp at hj; subst hj; go_simp
  | 1, hj => simp at hj; subst hj; go_simp
  | 2, hj => simp at hj; subst hj; go_simp
  | 3, hj => simp at hj; subst hj; go_simp
set_option maxHeartbeats 4000000 in
set_option maxRecDepth 100000 in
theorem radd_any (base n cap : Nat) (A : Option Addr) (ls : List Vc) (c : Vc) (w : World) (hown : w.ownsRow base 59 4 (.slice A n cap) n (flat ls)) (hb : base ≤ w.heap.size) (hn : n ≤ 100) (hq : ∀ v ∈ ls, -100000 ≤ v.q ∧ v.q ≤ 100000) (hcq : -100000 ≤ c.q ∧ c.q ≤ 100000) :
    Calls Try.prog 56 #[.slice A n cap, c.val] w fun e w' => ∃ v', e = .returned v' ∧ w'.ownsRow base 59 4 v' (addC c ls).length (flat (addC c ls)) ∧ Kp (fun k => base ≤ k) w w' := by
  obtain ⟨i0, hi0, hz0, hz1, hz2⟩ := info_parts info59
  have hll : ls.length = n := by
    have := hown.1
    rw [flat_len] at this
    omega
  obtain ⟨_, _, hform, hcap, hcm, hnn⟩ := own_form hown
  cases hform
  go_enter Try.func56, Try.ntmps56
  simp only [Vc.val]
  go_wp2_with fail
  have B1 := heap_alloc_new w (.cells #[.int .i64 c.d, .int .i64 c.p, .int .i64 c.f, .int .i64 c.q] 59)
  have hk0 := Kp.alloc No w (.cells #[.int .i64 c.d, .int .i64 c.p, .int .i64 c.f, .int .i64 c.q] 59)
  generalize w.alloc (.cells #[.int .i64 c.d, .int .i64 c.p, .int .i64 c.f, .int .i64 c.q] 59) = w1 at B1 hk0 ⊢
  have b0 : w1.cell? ⟨w.heap.size, 0, none⟩ = some (.int .i64 c.d) := by rw [cell_of_row w1 _ _ _ _ _ B1]; rfl
  have b1 : w1.cell? ⟨w.heap.size, 1, none⟩ = some (.int .i64 c.p) := by rw [cell_of_row w1 _ _ _ _ _ B1]; rfl
  have b2 : w1.cell? ⟨w.heap.size, 2, none⟩ = some (.int .i64 c.f) := by rw [cell_of_row w1 _ _ _ _ _ B1]; rfl
  have b3 : w1.cell? ⟨w.heap.size, 3, none⟩ = some (.int .i64 c.q) := by rw [cell_of_row w1 _ _ _ _ _ B1]; rfl
  have HB1 := Lib.hid B1
  have HOW := Lib.hid hown
  clear B1 hown
  go_loopw [5] (fun i wr => ∃ k : Nat, k ≤ n ∧ i = .int .i64 k ∧ (∀ (j : Nat) v, j < k → ls[j]? = some v → Bef v c) ∧ Kp No w1 wr) (fun i _ => n - (intOf i).toNat)
  case atStart => exact ⟨0, by omega, rfl, fun j v hj => by omega, Kp.refl _ _⟩
  case round =>
    obtain ⟨k, hk, rfl, hbef, hkp⟩ := hrel
    have HBF := Lib.hid hbef
    clear hbef
    by_cases hlt : k < n
    · obtain ⟨x, hxk⟩ : ∃ x, ls[k]? = some x := ⟨_, List.getElem?_eq_getElem (by omega)⟩
      have c0 := hkp.cell b0 (fun h => h)
      have c1 := hkp.cell b1 (fun h => h)
      have c2 := hkp.cell b2 (fun h => h)
      have c3 := hkp.cell b3 (fun h => h)
      have hown2 := (hk0.tr hkp).owns HOW.out (fun _ _ h => h)
      obtain ⟨g, rfl, hg1, hg2, _, x0, x1, x2, x3⟩ := own_cells hown2 k x hxk
      have HX := Lib.hid hxk
      have HO2 := Lib.hid hown2
      clear hxk hown2
      go_wp2_with fail
      refine wp_region_each (fun i u => match i with | 0 => u = .int .i64 (k : Int) | 1 => u = .slice (some ⟨g, 0, none⟩) n cap | 2 => u = .int .i64 (n : Int) | 3 => u = .bool true | 4 => u = .bool true | 5 => u = .slice (some ⟨g, 0, none⟩) n cap | 6 => u = .int .i64 (k : Int) | 7 => u = .pointer (some ⟨g, k * 4, none⟩) | 8 => u = .agg #[.int .i64 x.d, .int .i64 x.p, .int .i64 x.f, .int .i64 x.q] | 9 => u = .agg #[.int .i64 c.d, .int .i64 c.p, .int .i64 c.f, .int .i64 c.q] | 10 => u = .bool (decide (Bef x c)) | _ => u = .bool (decide (Bef x c)))
        (fun r w' => Kp No wr w') (by kernel_rfl) (by kernel_rfl) (by kernel_rfl) ?_ ?_ ?_
      · exact Kp.drew _ _
      · refine ⟨?_, ?_, ?_, ?_, ?_, ?_, ?_, ?_, ?_, ?_, ?_, ?_, trivial⟩
        · intro r a w' hf hg hW hr hd K hK
          refine wpOp_of rfl rfl ?_
          have e0 : a.tmps.getD 5 undef = .int .i64 (k : Int) := hf.evalFree (by kernel_rfl)
          go_simp
          exact hK _ _ rfl hW
        · intro r a w' hf hg hW hr hd K hK
          refine wpOp_of rfl rfl ?_
          have e0 : a.tmps.getD 0 undef = .slice (some ⟨g, 0, none⟩) n cap := hf.evalFree (by kernel_rfl)
          go_simp
          exact hK _ _ rfl hW
        · intro r a w' hf hg hW hr hd K hK
          refine wpOp_of rfl rfl ?_
          refine hf.depE hg hd 1 8 (by kernel_rfl) fun u0 e0 g0 _ => ?_
          replace g0 : u0 = .slice (some ⟨g, 0, none⟩) n cap := g0
          subst g0
          go_simp
          exact hK _ _ rfl hW
        · intro r a w' hf hg hW hr hd K hK
          refine wpOp_of rfl rfl ?_
          refine hf.depE hg hd 0 7 (by kernel_rfl) fun u0 e0 g0 _ => ?_
          replace g0 : u0 = .int .i64 (k : Int) := g0
          subst g0
          refine hf.depE hg hd 2 9 (by kernel_rfl) fun u1 e1 g1 _ => ?_
          replace g1 : u1 = .int .i64 (n : Int) := g1
          subst g1
          have hkn : decide (k < n) = true := decide_eq_true hlt
          go_simp
          exact hK _ _ rfl hW
        · intro r a w' hf hg hW hr hd K hK
          refine wpOp_of rfl rfl ?_
          refine hf.depE hg hd 3 10 (by kernel_rfl) fun u0 e0 g0 _ => ?_
          replace g0 : u0 = .bool true := g0
          subst g0
          go_simp
          exact hK _ _ rfl hW
        · intro r a w' hf hg hW hr hd K hK
          refine hf.depE hg hd 4 11 (by kernel_rfl) fun u9 e9 g9 _ => ?_
          replace g9 : u9 = .bool true := g9
          subst g9
          refine wpOp_run rfl rfl rfl rfl e9 ?_
          have e0 : a.tmps.getD 0 undef = .slice (some ⟨g, 0, none⟩) n cap := hf.evalFree (by kernel_rfl)
          go_simp
          exact hK _ _ rfl hW
        · intro r a w' hf hg hW hr hd K hK
          refine hf.depE hg hd 4 11 (by kernel_rfl) fun u9 e9 g9 _ => ?_
          replace g9 : u9 = .bool true := g9
          subst g9
          refine wpOp_run rfl rfl rfl rfl e9 ?_
          have e0 : a.tmps.getD 5 undef = .int .i64 (k : Int) := hf.evalFree (by kernel_rfl)
          go_simp
          exact hK _ _ rfl hW
        · intro r a w' hf hg hW hr hd K hK
          refine hf.depE hg hd 4 11 (by kernel_rfl) fun u9 e9 g9 _ => ?_
          replace g9 : u9 = .bool true := g9
          subst g9
          refine wpOp_run rfl rfl rfl rfl e9 ?_
          refine hf.depE hg hd 5 12 (by kernel_rfl) fun u0 e0 g0 _ => ?_
          replace g0 : u0 = .slice (some ⟨g, 0, none⟩) n cap := g0
          subst g0
          refine hf.depE hg hd 6 13 (by kernel_rfl) fun u1 e1 g1 _ => ?_
          replace g1 : u1 = .int .i64 (k : Int) := g1
          subst g1
          go_simp
          exact hK _ _ rfl hW
        · intro r a w' hf hg hW hr hd K hK
          refine hf.depE hg hd 4 11 (by kernel_rfl) fun u9 e9 g9 _ => ?_
          replace g9 : u9 = .bool true := g9
          subst g9
          refine wpOp_run rfl rfl rfl rfl e9 ?_
          refine hf.depE hg hd 7 14 (by kernel_rfl) fun u0 e0 g0 _ => ?_
          replace g0 : u0 = .pointer (some ⟨g, k * 4, none⟩) := g0
          subst g0
          have y0 := hW.cell x0 (fun h => h)
          have y1 := hW.cell x1 (fun h => h)
          have y2 := hW.cell x2 (fun h => h)
          have y3 := hW.cell x3 (fun h => h)
          go_simp
          exact hK _ _ rfl hW
        · intro r a w' hf hg hW hr hd K hK
          refine hf.depE hg hd 4 11 (by kernel_rfl) fun u9 e9 g9 _ => ?_
          replace g9 : u9 = .bool true := g9
          subst g9
          refine wpOp_run rfl rfl rfl rfl e9 ?_
          have e0 : a.tmps.getD 3 undef = .pointer (some ⟨w.heap.size, 0, none⟩) := hf.evalFree (by kernel_rfl)
          have z0 := hW.cell c0 (fun h => h)
          have z1 := hW.cell c1 (fun h => h)
          have z2 := hW.cell c2 (fun h => h)
          have z3 := hW.cell c3 (fun h => h)
          go_simp
          exact hK _ _ rfl hW
        · intro r a w' hf hg hW hr hd K hK
          refine hf.depE hg hd 4 11 (by kernel_rfl) fun u9 e9 g9 _ => ?_
          replace g9 : u9 = .bool true := g9
          subst g9
          refine wpOp_run rfl rfl rfl rfl e9 ?_
          refine hf.depE hg hd 8 15 (by kernel_rfl) fun u0 e0 g0 _ => ?_
          replace g0 : u0 = .agg #[.int .i64 x.d, .int .i64 x.p, .int .i64 x.f, .int .i64 x.q] := g0
          subst g0
          refine hf.depE hg hd 9 16 (by kernel_rfl) fun u1 e1 g1 _ => ?_
          replace g1 : u1 = .agg #[.int .i64 c.d, .int .i64 c.p, .int .i64 c.f, .int .i64 c.q] := g1
          subst g1
          go_simp
          refine (before_any x c w').mono ?_
          rintro e w'' ⟨rfl, hk2⟩
          exact hK _ _ rfl (hW.no hk2)
        · intro r a w' hf hg hW hr hd K hK
          refine wpOp_of rfl rfl ?_
          refine hf.depE hg hd 4 11 (by kernel_rfl) fun u0 e0 g0 _ => ?_
          replace g0 : u0 = .bool true := g0
          subst g0
          refine hf.depE hg hd 10 17 (by kernel_rfl) fun u1 e1 g1 _ => ?_
          replace g1 : u1 = .bool (decide (Bef x c)) := g1
          subst g1
          go_simp
          exact hK _ _ rfl hW
      intro r' w2 hg hW hr'
      refine (fun (hKn : Kp No wr w2) => ?_) hW
      simp only [List.length_cons, List.length_nil, Nat.reduceAdd, List.range_succ, List.range_zero, List.nil_append, List.cons_append, List.map_cons, List.map_nil, putAll, Act.put, List.setIfInBounds_toArray, List.set_cons_succ, List.set_cons_zero]
      obtain ⟨uL, hL⟩ : ∃ u, r' 11 = some u := by
        cases h : r' 11 with
        | none => exact absurd h (hr' 11 (by decide))
        | some u => exact ⟨u, rfl⟩
      have hLv : uL = .bool (decide (Bef x c)) := hg 11 uL hL
      subst hLv
      rw [hL]
      simp only [Option.getD_some]
      generalize (r' 0).getD undef = q0
      generalize (r' 1).getD undef = q1
      generalize (r' 2).getD undef = q2
      generalize (r' 3).getD undef = q3
      generalize (r' 4).getD undef = q4
      generalize (r' 5).getD undef = q5
      generalize (r' 6).getD undef = q6
      generalize (r' 7).getD undef = q7
      generalize (r' 8).getD undef = q8
      generalize (r' 9).getD undef = q9
      generalize (r' 10).getD undef = q10
      clear hL hg hr' hW
      by_cases hbx : Bef x c
      · have hbt : decide (Bef x c) = true := decide_eq_true hbx
        rw [hbt]
        have hrel2 : ∀ (j : Nat) v, j < k + 1 → ls[j]? = some v → Bef v c := fun j v hj hv => by
          by_cases e : j = k
          · subst e
            rw [HX.out] at hv
            cases hv
            exact hbx
          · exact HBF.out j v (by omega) hv
        have HRL := Lib.hid hrel2
        have HKN := Lib.hid (hkp.tr hKn)
        clear hbx hbt hrel2 hKn
        go_wp2_with fail
        go_roundw
        case rel => exact ⟨k + 1, by omega, by go_num, HRL.out, HKN.out⟩
        case measure => simp [intOf]; omega
      · have hbt : decide (Bef x c) = false := decide_eq_false hbx
        rw [hbt]
        have HBX := Lib.hid hbx
        have hkp2 := hkp.tr hKn
        have HKP := Lib.hid hkp2
        replace c0 := hKn.cell c0 (fun h => h)
        replace c1 := hKn.cell c1 (fun h => h)
        replace c2 := hKn.cell c2 (fun h => h)
        replace c3 := hKn.cell c3 (fun h => h)
        replace x0 := hKn.cell x0 (fun h => h)
        replace x1 := hKn.cell x1 (fun h => h)
        replace x2 := hKn.cell x2 (fun h => h)
        replace x3 := hKn.cell x3 (fun h => h)
        have hsz2 := Nat.lt_of_lt_of_le hg2 hKn.size
        have HO3 := Lib.hid (hKn.owns HO2.out (fun _ _ h => h))
        clear hbx hbt hKn hkp2 hkp HO2 hg2
        go_wp2_with fail
        refine wp_region_each (fun i u => match i with | 0 => u = .int .i64 (k : Int) | 1 => u = .slice (some ⟨g, 0, none⟩) n cap | 2 => u = .int .i64 (n : Int) | 3 => u = .bool true | 4 => u = .bool true | 5 => u = .agg #[.int .i64 c.d, .int .i64 c.p, .int .i64 c.f, .int .i64 c.q] | 6 => u = .slice (some ⟨g, 0, none⟩) n cap | 7 => u = .int .i64 (k : Int) | 8 => u = .pointer (some ⟨g, k * 4, none⟩) | 9 => u = .agg #[.int .i64 x.d, .int .i64 x.p, .int .i64 x.f, .int .i64 x.q] | 10 => u = .bool (decide (Bef c x)) | _ => u = .bool (!decide (Bef c x)))
          (fun r w' => Kp No w2 w') (by kernel_rfl) (by kernel_rfl) (by kernel_rfl) ?_ ?_ ?_
        · exact Kp.drew _ _
        · refine ⟨?_, ?_, ?_, ?_, ?_, ?_, ?_, ?_, ?_, ?_, ?_, ?_, ?_, trivial⟩
          · intro r a w' hf hg hW hr hd K hK
            refine wpOp_of rfl rfl ?_
            have e0 : a.tmps.getD 5 undef = .int .i64 (k : Int) := hf.evalFree (by kernel_rfl)
            go_simp
            exact hK _ _ rfl hW
          · intro r a w' hf hg hW hr hd K hK
            refine wpOp_of rfl rfl ?_
            have e0 : a.tmps.getD 0 undef = .slice (some ⟨g, 0, none⟩) n cap := hf.evalFree (by kernel_rfl)
            go_simp
            exact hK _ _ rfl hW
          · intro r a w' hf hg hW hr hd K hK
            refine wpOp_of rfl rfl ?_
            refine hf.depE hg hd 1 22 (by kernel_rfl) fun u0 e0 g0 _ => ?_
            replace g0 : u0 = .slice (some ⟨g, 0, none⟩) n cap := g0
            subst g0
            go_simp
            exact hK _ _ rfl hW
          · intro r a w' hf hg hW hr hd K hK
            refine wpOp_of rfl rfl ?_
            refine hf.depE hg hd 0 21 (by kernel_rfl) fun u0 e0 g0 _ => ?_
            replace g0 : u0 = .int .i64 (k : Int) := g0
            subst g0
            refine hf.depE hg hd 2 23 (by kernel_rfl) fun u1 e1 g1 _ => ?_
            replace g1 : u1 = .int .i64 (n : Int) := g1
            subst g1
            have hkn : decide (k < n) = true := decide_eq_true hlt
            go_simp
            exact hK _ _ rfl hW
          · intro r a w' hf hg hW hr hd K hK
            refine wpOp_of rfl rfl ?_
            refine hf.depE hg hd 3 24 (by kernel_rfl) fun u0 e0 g0 _ => ?_
            replace g0 : u0 = .bool true := g0
            subst g0
            go_simp
            exact hK _ _ rfl hW
          · intro r a w' hf hg hW hr hd K hK
            refine hf.depE hg hd 4 25 (by kernel_rfl) fun u9 e9 g9 _ => ?_
            replace g9 : u9 = .bool true := g9
            subst g9
            refine wpOp_run rfl rfl rfl rfl e9 ?_
            have e0 : a.tmps.getD 3 undef = .pointer (some ⟨w.heap.size, 0, none⟩) := hf.evalFree (by kernel_rfl)
            have z0 := hW.cell c0 (fun h => h)
            have z1 := hW.cell c1 (fun h => h)
            have z2 := hW.cell c2 (fun h => h)
            have z3 := hW.cell c3 (fun h => h)
            go_simp
            exact hK _ _ rfl hW
          · intro r a w' hf hg hW hr hd K hK
            refine hf.depE hg hd 4 25 (by kernel_rfl) fun u9 e9 g9 _ => ?_
            replace g9 : u9 = .bool true := g9
            subst g9
            refine wpOp_run rfl rfl rfl rfl e9 ?_
            have e0 : a.tmps.getD 0 undef = .slice (some ⟨g, 0, none⟩) n cap := hf.evalFree (by kernel_rfl)
            go_simp
            exact hK _ _ rfl hW
          · intro r a w' hf hg hW hr hd K hK
            refine hf.depE hg hd 4 25 (by kernel_rfl) fun u9 e9 g9 _ => ?_
            replace g9 : u9 = .bool true := g9
            subst g9
            refine wpOp_run rfl rfl rfl rfl e9 ?_
            have e0 : a.tmps.getD 5 undef = .int .i64 (k : Int) := hf.evalFree (by kernel_rfl)
            go_simp
            exact hK _ _ rfl hW
          · intro r a w' hf hg hW hr hd K hK
            refine hf.depE hg hd 4 25 (by kernel_rfl) fun u9 e9 g9 _ => ?_
            replace g9 : u9 = .bool true := g9
            subst g9
            refine wpOp_run rfl rfl rfl rfl e9 ?_
            refine hf.depE hg hd 6 27 (by kernel_rfl) fun u0 e0 g0 _ => ?_
            replace g0 : u0 = .slice (some ⟨g, 0, none⟩) n cap := g0
            subst g0
            refine hf.depE hg hd 7 28 (by kernel_rfl) fun u1 e1 g1 _ => ?_
            replace g1 : u1 = .int .i64 (k : Int) := g1
            subst g1
            go_simp
            exact hK _ _ rfl hW
          · intro r a w' hf hg hW hr hd K hK
            refine hf.depE hg hd 4 25 (by kernel_rfl) fun u9 e9 g9 _ => ?_
            replace g9 : u9 = .bool true := g9
            subst g9
            refine wpOp_run rfl rfl rfl rfl e9 ?_
            refine hf.depE hg hd 8 29 (by kernel_rfl) fun u0 e0 g0 _ => ?_
            replace g0 : u0 = .pointer (some ⟨g, k * 4, none⟩) := g0
            subst g0
            have y0 := hW.cell x0 (fun h => h)
            have y1 := hW.cell x1 (fun h => h)
            have y2 := hW.cell x2 (fun h => h)
            have y3 := hW.cell x3 (fun h => h)
            go_simp
            exact hK _ _ rfl hW
          · intro r a w' hf hg hW hr hd K hK
            refine hf.depE hg hd 4 25 (by kernel_rfl) fun u9 e9 g9 _ => ?_
            replace g9 : u9 = .bool true := g9
            subst g9
            refine wpOp_run rfl rfl rfl rfl e9 ?_
            refine hf.depE hg hd 5 26 (by kernel_rfl) fun u0 e0 g0 _ => ?_
            replace g0 : u0 = .agg #[.int .i64 c.d, .int .i64 c.p, .int .i64 c.f, .int .i64 c.q] := g0
            subst g0
            refine hf.depE hg hd 9 30 (by kernel_rfl) fun u1 e1 g1 _ => ?_
            replace g1 : u1 = .agg #[.int .i64 x.d, .int .i64 x.p, .int .i64 x.f, .int .i64 x.q] := g1
            subst g1
            go_simp
            refine (before_any c x w').mono ?_
            rintro e w'' ⟨rfl, hk2⟩
            exact hK _ _ rfl (hW.no hk2)
          · intro r a w' hf hg hW hr hd K hK
            refine hf.depE hg hd 4 25 (by kernel_rfl) fun u9 e9 g9 _ => ?_
            replace g9 : u9 = .bool true := g9
            subst g9
            refine wpOp_run rfl rfl rfl rfl e9 ?_
            refine hf.depE hg hd 10 31 (by kernel_rfl) fun u0 e0 g0 _ => ?_
            replace g0 : u0 = .bool (decide (Bef c x)) := g0
            subst g0
            go_simp
            exact hK _ _ rfl hW
          · intro r a w' hf hg hW hr hd K hK
            refine wpOp_of rfl rfl ?_
            refine hf.depE hg hd 4 25 (by kernel_rfl) fun u0 e0 g0 _ => ?_
            replace g0 : u0 = .bool true := g0
            subst g0
            refine hf.depE hg hd 11 32 (by kernel_rfl) fun u1 e1 g1 _ => ?_
            replace g1 : u1 = .bool (!decide (Bef c x)) := g1
            subst g1
            go_simp
            exact hK _ _ rfl hW
        intro r' w3 hg hW hr'
        refine (fun (hKn : Kp No w2 w3) => ?_) hW
        simp only [List.length_cons, List.length_nil, Nat.reduceAdd, List.range_succ, List.range_zero, List.nil_append, List.cons_append, List.map_cons, List.map_nil, putAll, Act.put, List.setIfInBounds_toArray, List.set_cons_succ, List.set_cons_zero]
        obtain ⟨uL, hL⟩ : ∃ u, r' 12 = some u := by
          cases h : r' 12 with
          | none => exact absurd h (hr' 12 (by decide))
          | some u => exact ⟨u, rfl⟩
        have hLv : uL = .bool (!decide (Bef c x)) := hg 12 uL hL
        subst hLv
        rw [hL]
        simp only [Option.getD_some]
        generalize (r' 0).getD undef = q0
        generalize (r' 1).getD undef = q1
        generalize (r' 2).getD undef = q2
        generalize (r' 3).getD undef = q3
        generalize (r' 4).getD undef = q4
        generalize (r' 5).getD undef = q5
        generalize (r' 6).getD undef = q6
        generalize (r' 7).getD undef = q7
        generalize (r' 8).getD undef = q8
        generalize (r' 9).getD undef = q9
        generalize (r' 10).getD undef = q10
        generalize (r' 11).getD undef = q11
        clear hL hg hr' hW
        by_cases hcx : Bef c x
        · have hbt : decide (Bef c x) = true := decide_eq_true hcx
          rw [hbt]
          have HCX := Lib.hid hcx
          clear hcx hbt
          have hk3 := HKP.out.tr hKn
          have HO4 := Lib.hid (hKn.owns HO3.out (fun _ _ h => h))
          have y0 := hKn.cell c0 (fun h => h)
          have y1 := hKn.cell c1 (fun h => h)
          have y2 := hKn.cell c2 (fun h => h)
          have y3 := hKn.cell c3 (fun h => h)
          have hg3 := Nat.lt_of_lt_of_le hsz2 hKn.size
          have hws : w.heap.size < w3.heap.size := World.block_lt_of_cell? w3 _ y0
          clear c0 c1 c2 c3 x0 x1 x2 x3 hKn HO3 hsz2
          have hins : addC c ls = ls.take k ++ c :: ls.drop k := addC_ins c ls k HBF.out (by omega) fun v hv => by
            rw [HX.out] at hv
            cases hv
            exact ⟨HBX.out, HCX.out⟩
          have HI := Lib.hid hins
          clear hins
          go_wp2_with (at_builtin; refine stop_in ?_)
          refine stop_out ?_
          refine wpL_append_any rfl _ _ 40 rfl w3.heap.size 59 i0 (.agg #[.int .i64 0, .int .i64 0, .int .i64 0, .int .i64 0]) 4 32 Try.underlying40 hi0 hz0 hz1 hz2 rfl (by decide) (.slice (some ⟨w3.heap.size, 0, none⟩) 0 0) 0 [] rfl (own_empty w3 _ (Nat.le_refl _)) (some ⟨g, 0, none⟩) k cap (flat (ls.take k)) rfl (by rw [flat_len, List.length_take]; omega) (by simp) (fun ad had => by cases had; exact news_take (HO4.out.alloc _) k) (flat_one _) (by unfold maxLen; omega) (by omega) (by simp) ?_
          intro v1 w4 ho1 hgr1 hat1
          have hk4 : Kp (fun k => w3.heap.size ≤ k) w3 w4 := (Kp.alloc _ _ _).tr (Kp.grown hgr1 fun k hk _ => by cases hk; exact Nat.le_refl _)
          replace ho1 : w4.ownsRow w3.heap.size 59 4 v1 k (flat (ls.take k)) := by simpa using ho1
          have z0 := hk4.cell y0 (Nat.not_le.2 hws)
          have z1 := hk4.cell y1 (Nat.not_le.2 hws)
          have z2 := hk4.cell y2 (Nat.not_le.2 hws)
          have z3 := hk4.cell y3 (Nat.not_le.2 hws)
          have hsz4 := hk4.size
          have O1 := Lib.hid ho1
          clear ho1 hgr1 hat1 y0 y1 y2 y3
          go_wp2_with (at_builtin; refine stop_in ?_)
          refine stop_out ?_
          refine wpL_append_any rfl _ _ 40 rfl w3.heap.size 59 i0 (.agg #[.int .i64 0, .int .i64 0, .int .i64 0, .int .i64 0]) 4 32 Try.underlying40 hi0 hz0 hz1 hz2 rfl (by decide) v1 k (flat (ls.take k)) rfl (O1.out.alloc _) (some ⟨w4.heap.size, 0, none⟩) 1 1 c.cells4 rfl rfl (by simp) (fun ad had => by cases had; exact new4c w4 c) (cells4_one c) (by unfold maxLen; omega) (by omega) (by simp; omega) ?_
          intro v2 w5 ho2 hgr2 hat2
          have hk5 : Kp (fun k => w3.heap.size ≤ k) w3 w5 := hk4.tr ((Kp.alloc _ _ _).tr (Kp.grown hgr2 fun k hk _ => (own_ge O1.out hk).1))
          have HO5 := Lib.hid (hk5.owns HO4.out (fun q hq => by have e : some g = some q := hq; cases e; exact Nat.not_le.2 hg3))
          have O2 := Lib.hid ho2
          have hsz5 := hk5.size
          clear ho2 hgr2 hat2 z0 z1 z2 z3 hk4 hsz4
          go_wp2_with (at_builtin; refine stop_in ?_)
          refine stop_out ?_
          refine wpL_append_any rfl _ _ 40 rfl w3.heap.size 59 i0 (.agg #[.int .i64 0, .int .i64 0, .int .i64 0, .int .i64 0]) 4 32 Try.underlying40 hi0 hz0 hz1 hz2 rfl (by decide) v2 (k + 1) (flat (ls.take k) ++ c.cells4) rfl O2.out (some ⟨g, k * 4, none⟩) (n - k) (cap - k) (flat (ls.drop k)) rfl (by rw [flat_len, List.length_drop]; omega) (by simp) (fun ad had => by cases had; exact news_drop HO5.out k (by omega)) (flat_one _) (by unfold maxLen; omega) (by omega) hsz5 ?_
          intro v3 w6 ho3 hgr3 hat3
          have hk6 : Kp (fun k => base ≤ k) w w6 := (hk0.of_no (S := fun k => base ≤ k)).tr ((hk3.of_no).tr (((hk5.mono fun k _ h => by have : w3.heap.size ≤ k := h; have := hk3.size; have := hk0.size; show base ≤ k; omega)).tr (Kp.grown hgr3 fun k hk _ => by have := (own_ge O2.out hk).1; have := hk3.size; have := hk0.size; show base ≤ k; omega)))
          have hfin : w6.ownsRow base 59 4 v3 (addC c ls).length (flat (addC c ls)) := by
            have e1 : (addC c ls).length = k + 1 + (n - k) := by rw [HI.out, List.length_append, List.length_take, List.length_cons, List.length_drop]; omega
            have e2 : flat (addC c ls) = flat (ls.take k) ++ c.cells4 ++ flat (ls.drop k) := by rw [HI.out, flat_append, List.append_assoc]; rfl
            rw [e1, e2]
            exact own_mono ho3 (by have := hk3.size; have := hk0.size; omega)
          have HF := Lib.hid hfin
          have HK6 := Lib.hid hk6
          clear ho3 hgr3 hat3 hfin hk6
          go_wp2_with fail
          go_ret
          exact ⟨v3, rfl, HF.out, HK6.out⟩
        · have hbt : decide (Bef c x) = false := decide_eq_false hcx
          rw [hbt]
          have HCX := Lib.hid hcx
          clear hcx hbt
          have hk3 := HKP.out.tr hKn
          have HO4 := Lib.hid (hKn.owns HO3.out (fun _ _ h => h))
          have hmem := List.mem_of_getElem? HX.out
          have hxq := hq x hmem
          replace c3 := hKn.cell c3 (fun h => h)
          replace x3 := hKn.cell x3 (fun h => h)
          have hgw : g < w.heap.size := (own_ge HOW.out (g := g) rfl).2
          have f3 : ∀ (w' : World), Kp No w3 w' → w'.frozen? ⟨g, k * 4 + 3, none⟩ = false := fun w' h => (h.owns HO4.out (fun _ _ h => h)).frozenAt _
          have FR := Lib.hid f3
          have hset : addC c ls = ls.set k ⟨x.d, x.p, x.f, x.q + c.q⟩ := addC_set c ls k x HBF.out HX.out HBX.out HCX.out
          have HS := Lib.hid hset
          clear c0 c1 c2 x0 x1 x2 hKn HO3 hsz2 hset f3 hmem
          go_wp2_with fail
          have hWp : ∀ (r : Nat → Option Value) (w' : World) (i : Nat) (v : Value), i < 12 → ((fun r w' => (r 12 = none → Kp No w3 w') ∧ (r 12 ≠ none → r 6 ≠ none ∧ w'.ownsRow base 59 4 (.slice (some ⟨g, 0, none⟩) n cap) n ((flat ls).set (k * 4 + 3) (.int .i64 (x.q + c.q))) ∧ Kp (Kq.One g) w3 w')) r w') → ((fun r w' => (r 12 = none → Kp No w3 w') ∧ (r 12 ≠ none → r 6 ≠ none ∧ w'.ownsRow base 59 4 (.slice (some ⟨g, 0, none⟩) n cap) n ((flat ls).set (k * 4 + 3) (.int .i64 (x.q + c.q))) ∧ Kp (Kq.One g) w3 w')) (upd r i v) w') := fun r w' i v hi h => by
            refine ⟨fun e => h.1 (by rwa [upd_ne _ _ (by omega)] at e), fun e => ?_⟩
            rw [upd_ne _ _ (by omega)] at e
            refine ⟨fun e6 => ?_, (h.2 e).2⟩
            by_cases h6 : i = 6
            · subst h6
              rw [upd_same] at e6
              cases e6
            · rw [upd_ne _ _ (fun x => h6 x.symm)] at e6
              exact (h.2 e).1 e6
          refine wp_region_each (fun i u => match i with | 0 => u = .slice (some ⟨g, 0, none⟩) n cap | 1 => u = .int .i64 (k : Int) | 2 => u = .slice (some ⟨g, 0, none⟩) n cap | 3 => u = .int .i64 (k : Int) | 4 => u = .pointer (some ⟨g, k * 4, none⟩) | 5 => u = .pointer (some ⟨g, k * 4 + 3, none⟩) | 6 => u = .int .i64 x.q | 7 => u = .pointer (some ⟨w.heap.size, 3, none⟩) | 8 => u = .int .i64 c.q | 9 => u = .int .i64 (x.q + c.q) | 10 => u = .pointer (some ⟨g, k * 4, none⟩) | 11 => u = .pointer (some ⟨g, k * 4 + 3, none⟩) | _ => True)
            (fun r w' => (r 12 = none → Kp No w3 w') ∧ (r 12 ≠ none → r 6 ≠ none ∧ w'.ownsRow base 59 4 (.slice (some ⟨g, 0, none⟩) n cap) n ((flat ls).set (k * 4 + 3) (.int .i64 (x.q + c.q))) ∧ Kp (Kq.One g) w3 w')) (by kernel_rfl) (by kernel_rfl) (by kernel_rfl) ?_ ?_ ?_
          · exact ⟨fun _ => Kp.drew _ _, fun h => absurd rfl h⟩
          · refine ⟨?_, ?_, ?_, ?_, ?_, ?_, ?_, ?_, ?_, ?_, ?_, ?_, ?_, trivial⟩
            · intro r a w' hf hg hW hr hd K hK
              refine wpOp_of rfl rfl ?_
              have e0 : a.tmps.getD 0 undef = .slice (some ⟨g, 0, none⟩) n cap := hf.evalFree (by kernel_rfl)
              go_simp
              exact hK _ _ rfl (hWp _ _ _ _ (by omega) hW)
            · intro r a w' hf hg hW hr hd K hK
              refine wpOp_of rfl rfl ?_
              have e0 : a.tmps.getD 5 undef = .int .i64 (k : Int) := hf.evalFree (by kernel_rfl)
              go_simp
              exact hK _ _ rfl (hWp _ _ _ _ (by omega) hW)
            · intro r a w' hf hg hW hr hd K hK
              refine wpOp_of rfl rfl ?_
              have e0 : a.tmps.getD 0 undef = .slice (some ⟨g, 0, none⟩) n cap := hf.evalFree (by kernel_rfl)
              go_simp
              exact hK _ _ rfl (hWp _ _ _ _ (by omega) hW)
            · intro r a w' hf hg hW hr hd K hK
              refine wpOp_of rfl rfl ?_
              have e0 : a.tmps.getD 5 undef = .int .i64 (k : Int) := hf.evalFree (by kernel_rfl)
              go_simp
              exact hK _ _ rfl (hWp _ _ _ _ (by omega) hW)
            · intro r a w' hf hg hW hr hd K hK
              refine wpOp_of rfl rfl ?_
              refine hf.depE hg hd 2 36 (by kernel_rfl) fun u0 e0 g0 _ => ?_
              replace g0 : u0 = .slice (some ⟨g, 0, none⟩) n cap := g0
              subst g0
              refine hf.depE hg hd 3 37 (by kernel_rfl) fun u1 e1 g1 _ => ?_
              replace g1 : u1 = .int .i64 (k : Int) := g1
              subst g1
              go_simp
              exact hK _ _ rfl (hWp _ _ _ _ (by omega) hW)
            · intro r a w' hf hg hW hr hd K hK
              refine wpOp_of rfl rfl ?_
              refine hf.depE hg hd 4 38 (by kernel_rfl) fun u0 e0 g0 _ => ?_
              replace g0 : u0 = .pointer (some ⟨g, k * 4, none⟩) := g0
              subst g0
              go_simp
              exact hK _ _ rfl (hWp _ _ _ _ (by omega) hW)
            · intro r a w' hf hg hW hr hd K hK
              refine wpOp_of rfl rfl ?_
              refine hf.depE hg hd 5 39 (by kernel_rfl) fun u0 e0 g0 _ => ?_
              replace g0 : u0 = .pointer (some ⟨g, k * 4 + 3, none⟩) := g0
              subst g0
              have h12 : r 12 = none := Classical.byContradiction fun h => (hW.2 h).1 hr
              have y3 := (hW.1 h12).cell x3 (fun h => h)
              go_simp
              exact hK _ _ rfl (hWp _ _ _ _ (by omega) hW)
            · intro r a w' hf hg hW hr hd K hK
              refine wpOp_of rfl rfl ?_
              have e0 : a.tmps.getD 3 undef = .pointer (some ⟨w.heap.size, 0, none⟩) := hf.evalFree (by kernel_rfl)
              go_simp
              exact hK _ _ rfl (hWp _ _ _ _ (by omega) hW)
            · intro r a w' hf hg hW hr hd K hK
              refine wpOp_of rfl rfl ?_
              refine hf.depE hg hd 7 41 (by kernel_rfl) fun u0 e0 g0 _ => ?_
              replace g0 : u0 = .pointer (some ⟨w.heap.size, 3, none⟩) := g0
              subst g0
              have y3 : w'.cell? ⟨w.heap.size, 3, none⟩ = some (.int .i64 c.q) := by
                by_cases h : r 12 = none
                · exact (hW.1 h).cell c3 (fun h => h)
                · exact (hW.2 h).2.2.cell c3 (show ¬ w.heap.size = g by omega)
              go_simp
              exact hK _ _ rfl (hWp _ _ _ _ (by omega) hW)
            · intro r a w' hf hg hW hr hd K hK
              refine wpOp_of rfl rfl ?_
              refine hf.depE hg hd 6 40 (by kernel_rfl) fun u0 e0 g0 _ => ?_
              replace g0 : u0 = .int .i64 x.q := g0
              subst g0
              refine hf.depE hg hd 8 42 (by kernel_rfl) fun u1 e1 g1 _ => ?_
              replace g1 : u1 = .int .i64 c.q := g1
              subst g1
              go_simp
              exact hK _ _ (show Value.int .i64 (IntKind.i64.wrap (x.q + c.q)) = .int .i64 (x.q + c.q) by rw [IntWalk.i64_in _ (by omega)]) (hWp _ _ _ _ (by omega) hW)
            · intro r a w' hf hg hW hr hd K hK
              refine wpOp_of rfl rfl ?_
              refine hf.depE hg hd 0 34 (by kernel_rfl) fun u0 e0 g0 _ => ?_
              replace g0 : u0 = .slice (some ⟨g, 0, none⟩) n cap := g0
              subst g0
              refine hf.depE hg hd 1 35 (by kernel_rfl) fun u1 e1 g1 _ => ?_
              replace g1 : u1 = .int .i64 (k : Int) := g1
              subst g1
              go_simp
              exact hK _ _ rfl (hWp _ _ _ _ (by omega) hW)
            · intro r a w' hf hg hW hr hd K hK
              refine wpOp_of rfl rfl ?_
              refine hf.depE hg hd 10 44 (by kernel_rfl) fun u0 e0 g0 _ => ?_
              replace g0 : u0 = .pointer (some ⟨g, k * 4, none⟩) := g0
              subst g0
              go_simp
              exact hK _ _ rfl (hWp _ _ _ _ (by omega) hW)
            · intro r a w' hf hg hW hr hd K hK
              refine wpOp_of rfl rfl ?_
              refine hf.depE hg hd 11 45 (by kernel_rfl) fun u0 e0 g0 _ => ?_
              replace g0 : u0 = .pointer (some ⟨g, k * 4 + 3, none⟩) := g0
              subst g0
              refine hf.depE hg hd 9 43 (by kernel_rfl) fun u1 e1 g1 _ => ?_
              replace g1 : u1 = .int .i64 (x.q + c.q) := g1
              subst g1
              have hw1 := hW.1 hr
              have y3 := hw1.cell x3 (fun h => h)
              have yf := FR.out w' hw1
              go_simp
              refine hK undef _ trivial ⟨fun h => (by rw [upd_same] at h; cases h), fun _ => ⟨fun h => ?_, own_set (hw1.owns HO4.out (fun _ _ h => h)) _ _ (by omega), hw1.of_no.tr (Kp.setCell _ _ _ _ fun _ => rfl)⟩⟩
              rw [upd_ne _ _ (by omega)] at h
              exact hd ⟨6, .phase⟩ (by simp) rfl h
          intro r' w4 hg hW hr'
          clear hWp
          simp only [List.length_cons, List.length_nil, Nat.reduceAdd, List.range_succ, List.range_zero, List.nil_append, List.cons_append, List.map_cons, List.map_nil, putAll, Act.put, List.setIfInBounds_toArray, List.set_cons_succ, List.set_cons_zero]
          have hfin : w4.ownsRow base 59 4 (.slice (some ⟨g, 0, none⟩) n cap) (addC c ls).length (flat (addC c ls)) := by
            rw [HS.out, ← flat_set ls k x _ HX.out, List.length_set, hll]
            exact (hW.2 (hr' 12 (by decide))).2.1
          have hk6 : Kp (fun k => base ≤ k) w w4 := (hk0.of_no (S := fun k => base ≤ k)).tr ((hk3.of_no).tr ((hW.2 (hr' 12 (by decide))).2.2.mono fun k _ h => by have e : k = g := h; show base ≤ k; omega))
          have HF := Lib.hid hfin
          have HK6 := Lib.hid hk6
          clear hg hW hr' hfin hk6 c3 x3
          go_wp2_with fail
          go_ret
          exact ⟨_, rfl, HF.out, HK6.out⟩
    · obtain rfl : k = n := by omega
      have c0 := hkp.cell b0 (fun h => h)
      have c1 := hkp.cell b1 (fun h => h)
      have c2 := hkp.cell b2 (fun h => h)
      have c3 := hkp.cell b3 (fun h => h)
      have hown2 := (hk0.tr hkp).owns HOW.out (fun _ _ h => h)
      have hins : addC c ls = ls.take k ++ c :: ls.drop k := addC_ins c ls k HBF.out (by omega) fun v hv => by
        rw [List.getElem?_eq_none (by omega)] at hv
        cases hv
      have HI := Lib.hid hins
      have hkn : decide (k < k) = false := decide_eq_false (Nat.lt_irrefl _)
      have HOW2 := hown2
      clear hins
      have HKP := Lib.hid hkp
      rcases HOW2.2 with ⟨hv, hk0'⟩ | ⟨g, _, _, hv, hgb, _⟩
      · cases hv
        have HO2 := Lib.hid hown2
        clear hown2 HOW2 hkp
        go_wp2_with fail
        go_quiet (fail)
        have hq1 : Kp No wr (wr.drewN nq) := Kp.drewN _ _ _
        generalize wr.drewN nq = w2 at hq1 ⊢
        go_wp2_with fail
        go_quiet (fail)
        have hq2 : Kp No w2 (w2.drewN nq) := Kp.drewN _ _ _
        generalize w2.drewN nq = w3 at hq2 ⊢
        have hq3 := hq1.tr hq2
        have hk3 := HKP.out.tr hq3
        have HO4 := Lib.hid (hq3.owns HO2.out (fun _ _ h => h))
        have y0 := hq3.cell c0 (fun h => h)
        have y1 := hq3.cell c1 (fun h => h)
        have y2 := hq3.cell c2 (fun h => h)
        have y3 := hq3.cell c3 (fun h => h)
        have hws : w.heap.size < w3.heap.size := World.block_lt_of_cell? w3 _ y0
        clear c0 c1 c2 c3 hq1 hq2 hq3 HO2
        go_wp2_with (at_builtin; refine stop_in ?_)
        refine stop_out ?_
        refine wpL_append_any rfl _ _ 40 rfl w3.heap.size 59 i0 (.agg #[.int .i64 0, .int .i64 0, .int .i64 0, .int .i64 0]) 4 32 Try.underlying40 hi0 hz0 hz1 hz2 rfl (by decide) (.slice (some ⟨w3.heap.size, 0, none⟩) 0 0) 0 [] rfl (own_empty w3 _ (Nat.le_refl _)) none 0 0 (flat (ls.take 0)) rfl (by rw [flat_len, List.length_take]; omega) (fun _ => ⟨rfl, rfl⟩) (fun ad had => by cases had) (flat_one _) (by unfold maxLen; omega) (by omega) (by simp) ?_
        intro v1 w4 ho1 hgr1 hat1
        have hk4 : Kp (fun k => w3.heap.size ≤ k) w3 w4 := (Kp.alloc _ _ _).tr (Kp.grown hgr1 fun k hk _ => by cases hk; exact Nat.le_refl _)
        replace ho1 : w4.ownsRow w3.heap.size 59 4 v1 0 (flat (ls.take 0)) := by simpa using ho1
        have z0 := hk4.cell y0 (Nat.not_le.2 hws)
        have z1 := hk4.cell y1 (Nat.not_le.2 hws)
        have z2 := hk4.cell y2 (Nat.not_le.2 hws)
        have z3 := hk4.cell y3 (Nat.not_le.2 hws)
        have hsz4 := hk4.size
        have O1 := Lib.hid ho1
        clear ho1 hgr1 hat1 y0 y1 y2 y3
        go_wp2_with (at_builtin; refine stop_in ?_)
        refine stop_out ?_
        refine wpL_append_any rfl _ _ 40 rfl w3.heap.size 59 i0 (.agg #[.int .i64 0, .int .i64 0, .int .i64 0, .int .i64 0]) 4 32 Try.underlying40 hi0 hz0 hz1 hz2 rfl (by decide) v1 0 (flat (ls.take 0)) rfl (O1.out.alloc _) (some ⟨w4.heap.size, 0, none⟩) 1 1 c.cells4 rfl rfl (by simp) (fun ad had => by cases had; exact new4c w4 c) (cells4_one c) (by unfold maxLen; omega) (by omega) (by simp; omega) ?_
        intro v2 w5 ho2 hgr2 hat2
        have hk5 : Kp (fun k => w3.heap.size ≤ k) w3 w5 := hk4.tr ((Kp.alloc _ _ _).tr (Kp.grown hgr2 fun k hk _ => (own_ge O1.out hk).1))
        have HO5 := Lib.hid (hk5.owns HO4.out (fun q hq => by cases hq))
        have O2 := Lib.hid ho2
        have hsz5 := hk5.size
        clear ho2 hgr2 hat2 z0 z1 z2 z3 hk4 hsz4
        go_wp2_with (at_builtin; refine stop_in ?_)
        refine stop_out ?_
        refine wpL_append_any rfl _ _ 40 rfl w3.heap.size 59 i0 (.agg #[.int .i64 0, .int .i64 0, .int .i64 0, .int .i64 0]) 4 32 Try.underlying40 hi0 hz0 hz1 hz2 rfl (by decide) v2 (0 + 1) (flat (ls.take 0) ++ c.cells4) rfl O2.out none 0 0 (flat (ls.drop 0)) rfl (by rw [flat_len, List.length_drop]; omega) (fun _ => ⟨rfl, rfl⟩) (fun ad had => by cases had) (flat_one _) (by unfold maxLen; omega) (by omega) hsz5 ?_
        intro v3 w6 ho3 hgr3 hat3
        have hk6 : Kp (fun k => base ≤ k) w w6 := (hk0.of_no (S := fun k => base ≤ k)).tr ((hk3.of_no).tr (((hk5.mono fun k _ h => by have : w3.heap.size ≤ k := h; have := hk3.size; have := hk0.size; show base ≤ k; omega)).tr (Kp.grown hgr3 fun k hk _ => by have := (own_ge O2.out hk).1; have := hk3.size; have := hk0.size; show base ≤ k; omega)))
        have hfin : w6.ownsRow base 59 4 v3 (addC c ls).length (flat (addC c ls)) := by
          have e1 : (addC c ls).length = 0 + 1 + 0 := by rw [HI.out, List.length_append, List.length_take, List.length_cons, List.length_drop]; omega
          have e2 : flat (addC c ls) = flat (ls.take 0) ++ c.cells4 ++ flat (ls.drop 0) := by rw [HI.out, flat_append, List.append_assoc]; rfl
          rw [e1, e2]
          exact own_mono ho3 (by have := hk3.size; have := hk0.size; omega)
        have HF := Lib.hid hfin
        have HK6 := Lib.hid hk6
        clear ho3 hgr3 hat3 hfin hk6
        go_wp2_with fail
        go_ret
        exact ⟨v3, rfl, HF.out, HK6.out⟩
      · cases hv
        have hg2 := (own_ge hown2 (g := g) rfl).2
        have HO2 := Lib.hid hown2
        clear hown2 HOW2 hkp
        go_wp2_with fail
        go_quiet (fail)
        have hq1 : Kp No wr (wr.drewN nq) := Kp.drewN _ _ _
        generalize wr.drewN nq = w2 at hq1 ⊢
        go_wp2_with fail
        go_quiet (fail)
        have hq2 : Kp No w2 (w2.drewN nq) := Kp.drewN _ _ _
        generalize w2.drewN nq = w3 at hq2 ⊢
        have hq3 := hq1.tr hq2
        have hk3 := HKP.out.tr hq3
        have HO4 := Lib.hid (hq3.owns HO2.out (fun _ _ h => h))
        have y0 := hq3.cell c0 (fun h => h)
        have y1 := hq3.cell c1 (fun h => h)
        have y2 := hq3.cell c2 (fun h => h)
        have y3 := hq3.cell c3 (fun h => h)
        have hws : w.heap.size < w3.heap.size := World.block_lt_of_cell? w3 _ y0
        have hg3 := Nat.lt_of_lt_of_le hg2 hq3.size
        clear c0 c1 c2 c3 hq1 hq2 hq3 HO2
        by_cases hcc : cap = k
        · obtain rfl : k = cap := hcc.symm
          go_wp2_with (at_builtin; refine stop_in ?_)
          refine stop_out ?_
          refine wpL_append_any rfl _ _ 40 rfl w3.heap.size 59 i0 (.agg #[.int .i64 0, .int .i64 0, .int .i64 0, .int .i64 0]) 4 32 Try.underlying40 hi0 hz0 hz1 hz2 rfl (by decide) (.slice (some ⟨w3.heap.size, 0, none⟩) 0 0) 0 [] rfl (own_empty w3 _ (Nat.le_refl _)) (some ⟨g, 0, none⟩) k k (flat (ls.take k)) rfl (by rw [flat_len, List.length_take]; omega) (by simp) (fun ad had => by cases had; exact news_take (HO4.out.alloc _) k) (flat_one _) (by unfold maxLen; omega) (by omega) (by simp) ?_
          intro v1 w4 ho1 hgr1 hat1
          have hk4 : Kp (fun k => w3.heap.size ≤ k) w3 w4 := (Kp.alloc _ _ _).tr (Kp.grown hgr1 fun k hk _ => by cases hk; exact Nat.le_refl _)
          replace ho1 : w4.ownsRow w3.heap.size 59 4 v1 k (flat (ls.take k)) := by simpa using ho1
          have z0 := hk4.cell y0 (Nat.not_le.2 hws)
          have z1 := hk4.cell y1 (Nat.not_le.2 hws)
          have z2 := hk4.cell y2 (Nat.not_le.2 hws)
          have z3 := hk4.cell y3 (Nat.not_le.2 hws)
          have hsz4 := hk4.size
          have O1 := Lib.hid ho1
          clear ho1 hgr1 hat1 y0 y1 y2 y3
          go_wp2_with (at_builtin; refine stop_in ?_)
          refine stop_out ?_
          refine wpL_append_any rfl _ _ 40 rfl w3.heap.size 59 i0 (.agg #[.int .i64 0, .int .i64 0, .int .i64 0, .int .i64 0]) 4 32 Try.underlying40 hi0 hz0 hz1 hz2 rfl (by decide) v1 k (flat (ls.take k)) rfl (O1.out.alloc _) (some ⟨w4.heap.size, 0, none⟩) 1 1 c.cells4 rfl rfl (by simp) (fun ad had => by cases had; exact new4c w4 c) (cells4_one c) (by unfold maxLen; omega) (by omega) (by simp; omega) ?_
          intro v2 w5 ho2 hgr2 hat2
          have hk5 : Kp (fun k => w3.heap.size ≤ k) w3 w5 := hk4.tr ((Kp.alloc _ _ _).tr (Kp.grown hgr2 fun k hk _ => (own_ge O1.out hk).1))
          have HO5 := Lib.hid (hk5.owns HO4.out (fun q hq => by have e : some g = some q := hq; cases e; exact Nat.not_le.2 hg3))
          have O2 := Lib.hid ho2
          have hsz5 := hk5.size
          clear ho2 hgr2 hat2 z0 z1 z2 z3 hk4 hsz4
          go_wp2_with (at_builtin; refine stop_in ?_)
          refine stop_out ?_
          refine wpL_append_any rfl _ _ 40 rfl w3.heap.size 59 i0 (.agg #[.int .i64 0, .int .i64 0, .int .i64 0, .int .i64 0]) 4 32 Try.underlying40 hi0 hz0 hz1 hz2 rfl (by decide) v2 (k + 1) (flat (ls.take k) ++ c.cells4) rfl O2.out _ _ _ (flat (ls.drop k)) rfl (by rw [flat_len, List.length_drop]; omega) (fun h => by first | exact ⟨rfl, rfl⟩ | exact ⟨by omega, by omega⟩ | (simp at h)) (fun ad _ j u hu => by rw [List.drop_eq_nil_of_le (by omega)] at hu; cases hu) (flat_one _) (by unfold maxLen; omega) (by omega) hsz5 ?_
          intro v3 w6 ho3 hgr3 hat3
          have hk6 : Kp (fun k => base ≤ k) w w6 := (hk0.of_no (S := fun k => base ≤ k)).tr ((hk3.of_no).tr (((hk5.mono fun k _ h => by have : w3.heap.size ≤ k := h; have := hk3.size; have := hk0.size; show base ≤ k; omega)).tr (Kp.grown hgr3 fun k hk _ => by have := (own_ge O2.out hk).1; have := hk3.size; have := hk0.size; show base ≤ k; omega)))
          have hfin : w6.ownsRow base 59 4 v3 (addC c ls).length (flat (addC c ls)) := by
            have e1 : (addC c ls).length = k + 1 + 0 := by rw [HI.out, List.length_append, List.length_take, List.length_cons, List.length_drop]; omega
            have e2 : flat (addC c ls) = flat (ls.take k) ++ c.cells4 ++ flat (ls.drop k) := by rw [HI.out, flat_append, List.append_assoc]; rfl
            rw [e1, e2]
            exact own_mono ho3 (by have := hk3.size; have := hk0.size; omega)
          have HF := Lib.hid hfin
          have HK6 := Lib.hid hk6
          clear ho3 hgr3 hat3 hfin hk6
          go_wp2_with fail
          go_ret
          exact ⟨v3, rfl, HF.out, HK6.out⟩
        · go_wp2_with (at_builtin; refine stop_in ?_)
          refine stop_out ?_
          refine wpL_append_any rfl _ _ 40 rfl w3.heap.size 59 i0 (.agg #[.int .i64 0, .int .i64 0, .int .i64 0, .int .i64 0]) 4 32 Try.underlying40 hi0 hz0 hz1 hz2 rfl (by decide) (.slice (some ⟨w3.heap.size, 0, none⟩) 0 0) 0 [] rfl (own_empty w3 _ (Nat.le_refl _)) (some ⟨g, 0, none⟩) k cap (flat (ls.take k)) rfl (by rw [flat_len, List.length_take]; omega) (by simp) (fun ad had => by cases had; exact news_take (HO4.out.alloc _) k) (flat_one _) (by unfold maxLen; omega) (by omega) (by simp) ?_
          intro v1 w4 ho1 hgr1 hat1
          have hk4 : Kp (fun k => w3.heap.size ≤ k) w3 w4 := (Kp.alloc _ _ _).tr (Kp.grown hgr1 fun k hk _ => by cases hk; exact Nat.le_refl _)
          replace ho1 : w4.ownsRow w3.heap.size 59 4 v1 k (flat (ls.take k)) := by simpa using ho1
          have z0 := hk4.cell y0 (Nat.not_le.2 hws)
          have z1 := hk4.cell y1 (Nat.not_le.2 hws)
          have z2 := hk4.cell y2 (Nat.not_le.2 hws)
          have z3 := hk4.cell y3 (Nat.not_le.2 hws)
          have hsz4 := hk4.size
          have O1 := Lib.hid ho1
          clear ho1 hgr1 hat1 y0 y1 y2 y3
          go_wp2_with (at_builtin; refine stop_in ?_)
          refine stop_out ?_
          refine wpL_append_any rfl _ _ 40 rfl w3.heap.size 59 i0 (.agg #[.int .i64 0, .int .i64 0, .int .i64 0, .int .i64 0]) 4 32 Try.underlying40 hi0 hz0 hz1 hz2 rfl (by decide) v1 k (flat (ls.take k)) rfl (O1.out.alloc _) (some ⟨w4.heap.size, 0, none⟩) 1 1 c.cells4 rfl rfl (by simp) (fun ad had => by cases had; exact new4c w4 c) (cells4_one c) (by unfold maxLen; omega) (by omega) (by simp; omega) ?_
          intro v2 w5 ho2 hgr2 hat2
          have hk5 : Kp (fun k => w3.heap.size ≤ k) w3 w5 := hk4.tr ((Kp.alloc _ _ _).tr (Kp.grown hgr2 fun k hk _ => (own_ge O1.out hk).1))
          have HO5 := Lib.hid (hk5.owns HO4.out (fun q hq => by have e : some g = some q := hq; cases e; exact Nat.not_le.2 hg3))
          have O2 := Lib.hid ho2
          have hsz5 := hk5.size
          clear ho2 hgr2 hat2 z0 z1 z2 z3 hk4 hsz4
          go_wp2_with (at_builtin; refine stop_in ?_)
          refine stop_out ?_
          refine wpL_append_any rfl _ _ 40 rfl w3.heap.size 59 i0 (.agg #[.int .i64 0, .int .i64 0, .int .i64 0, .int .i64 0]) 4 32 Try.underlying40 hi0 hz0 hz1 hz2 rfl (by decide) v2 (k + 1) (flat (ls.take k) ++ c.cells4) rfl O2.out _ _ _ (flat (ls.drop k)) rfl (by rw [flat_len, List.length_drop]; omega) (fun h => by first | exact ⟨rfl, rfl⟩ | exact ⟨by omega, by omega⟩ | (simp at h)) (fun ad _ j u hu => by rw [List.drop_eq_nil_of_le (by omega)] at hu; cases hu) (flat_one _) (by unfold maxLen; omega) (by omega) hsz5 ?_
          intro v3 w6 ho3 hgr3 hat3
          have hk6 : Kp (fun k => base ≤ k) w w6 := (hk0.of_no (S := fun k => base ≤ k)).tr ((hk3.of_no).tr (((hk5.mono fun k _ h => by have : w3.heap.size ≤ k := h; have := hk3.size; have := hk0.size; show base ≤ k; omega)).tr (Kp.grown hgr3 fun k hk _ => by have := (own_ge O2.out hk).1; have := hk3.size; have := hk0.size; show base ≤ k; omega)))
          have hfin : w6.ownsRow base 59 4 v3 (addC c ls).length (flat (addC c ls)) := by
            have e1 : (addC c ls).length = k + 1 + 0 := by rw [HI.out, List.length_append, List.length_take, List.length_cons, List.length_drop]; omega
            have e2 : flat (addC c ls) = flat (ls.take k) ++ c.cells4 ++ flat (ls.drop k) := by rw [HI.out, flat_append, List.append_assoc]; rfl
            rw [e1, e2]
            exact own_mono ho3 (by have := hk3.size; have := hk0.size; omega)
          have HF := Lib.hid hfin
          have HK6 := Lib.hid hk6
          clear ho3 hgr3 hat3 hfin hk6
          go_wp2_with fail
          go_ret
          exact ⟨v3, rfl, HF.out, HK6.out⟩
end Go.Proofs.Ytfflhlmnfhfcgaa
