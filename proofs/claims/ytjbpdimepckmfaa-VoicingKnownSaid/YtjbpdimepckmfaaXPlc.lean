/- Chapter 27: the reference's less and place: the walks. Printed by gen_plc.py. -/
import Derived.Test.YtjbpdimepckmfaaXPlcPM
import Derived.Test.YtjbpdimepckmfaaXStt
import Derived.Test.YtjbpdimepckmfaaXSmlM
import Derived.Test.YtjbpdimepckmfaaXLibHvM
import Derived.Test.YtjbpdimepckmfaaXLibApR
import Derived.Test.YtjbpdimepckmfaaXLibClrM
namespace Go.Proofs.Ytjbpdimepckmfaa
open Go.RowKit Go.Kq

set_option maxHeartbeats 1000000 in
theorem rless_any (a b : Pp) (w : World) : Calls Try.prog 83 #[ep a, ep b] w fun e w' => e = .returned (.bool (ltP a b)) ∧ Kp No w w' := by
  obtain ⟨a1, a2⟩ := a
  obtain ⟨b1, b2⟩ := b
  have HL := Lib.hid (show ltP (a1, a2) (b1, b2) = decide (a1 < b1 ∨ (a1 = b1 ∧ a2 < b2)) from rfl)
  simp only [ep]
  generalize ltP (a1, a2) (b1, b2) = q at HL
  rcases Int.lt_trichotomy a1 b1 with h1 | h1 | h1
  · obtain rfl : q = true := by rw [HL.out, decide_eq_true_eq]; omega
    go_enter Try.func83, Try.ntmps83
    go_wp2
    go_ret
    exact ⟨rfl, (Kp.alloc _ _ _).tr (Kp.alloc _ _ _)⟩
  · subst h1
    by_cases h2 : a2 < b2
    · obtain rfl : q = true := by rw [HL.out, decide_eq_true_eq]; omega
      have h2' : decide (a2 < b2) = true := decide_eq_true h2
      go_enter Try.func83, Try.ntmps83
      go_wp2
      go_ret
      exact ⟨rfl, (Kp.alloc _ _ _).tr (Kp.alloc _ _ _)⟩
    · obtain rfl : q = false := by rw [HL.out, decide_eq_false_iff_not]; omega
      have h2' : decide (a2 < b2) = false := decide_eq_false h2
      go_enter Try.func83, Try.ntmps83
      go_wp2
      go_ret
      exact ⟨rfl, (Kp.alloc _ _ _).tr (Kp.alloc _ _ _)⟩
  · obtain rfl : q = false := by rw [HL.out, decide_eq_false_iff_not]; omega
    have h3 : decide (a1 < b1) = false := by rw [decide_eq_false_iff_not]; omega
    have h4 : (a1 == b1) = false := by rw [beq_eq_false_iff_ne]; omega
    go_enter Try.func83, Try.ntmps83
    go_wp2
    go_ret
    exact ⟨rfl, (Kp.alloc _ _ _).tr (Kp.alloc _ _ _)⟩
theorem pp_equal (w : World) (x y : Pp) : (Op.equalIn 10000 39 (ep x) (ep y)).run Try.prog w = .ok (decide (x = y)) w := pipe_eq w x y
/-- The cells of a slice. -/
theorem rd_newsK {α : Type} {f : α → List Value} {s : Nat} (hf : ∀ x, (f x).length = s) (hs : 0 < s) {w : World} {A : Option Addr} {n : Nat} {l : List α} (h : Rd f s w A n l) : ∀ ad, A = some ad → ∀ j u, (l.flatMap f)[j]? = some u → w.cell? (ad.add j) = some u := by
  intro ad had j u hj
  have hjl := (List.getElem?_eq_some_iff.1 hj).1
  rw [flat_len hf] at hjl
  have hd : j / s < l.length := Nat.div_lt_of_lt_mul (by rw [Nat.mul_comm]; exact hjl)
  obtain ⟨b, o, hA, _, hc⟩ := h.2 (j / s) l[j / s] (List.getElem?_eq_getElem hd)
  rw [had] at hA
  cases hA
  have hm : j % s < (f l[j / s]).length := by rw [hf]; exact Nat.mod_lt _ hs
  have h1 := flat_at hf l (j / s) l[j / s] (j % s) _ (List.getElem?_eq_getElem hd) (List.getElem?_eq_getElem hm)
  rw [Nat.div_add_mod', hj] at h1
  have h2 := hc (j % s) _ (List.getElem?_eq_getElem hm)
  rw [add_at, show o + j = o + j / s * s + j % s by have := Nat.div_add_mod' j s; omega, h2]
  exact h1.symm
theorem Rd.takeK {α : Type} {f : α → List Value} {s : Nat} {w : World} {A : Option Addr} {n : Nat} {l : List α} (h : Rd f s w A n l) {i : Nat} (hi : i ≤ n) : Rd f s w A i (l.take i) :=
  ⟨by rw [List.length_take, h.1]; omega, fun j v hv => h.2 j v (by
    have hj := (List.getElem?_eq_some_iff.1 hv).1
    rw [List.length_take] at hj
    rwa [List.getElem?_take_of_lt (by omega)] at hv)⟩
theorem Rd.dropK {α : Type} {f : α → List Value} {s : Nat} {w : World} {b o : Nat} {n : Nat} {l : List α} (h : Rd f s w (some ⟨b, o, none⟩) n l) {i : Nat} : Rd f s w (some ⟨b, o + i * s, none⟩) (n - i) (l.drop i) :=
  ⟨by rw [List.length_drop, h.1], fun j v hv => by
    rw [List.getElem?_drop] at hv
    obtain ⟨b', o', hA, hb, hc⟩ := h.2 (i + j) v hv
    cases hA
    exact ⟨b, o + i * s, rfl, hb, fun q u hq => by
      have := hc q u hq
      rwa [Nat.add_mul, ← Nat.add_assoc] at this⟩⟩
theorem pv0_cells (p : Pp) : (.cells #[.int .i64 p.1, .int .i64 p.2, .int .i64 0, .int .i64 0, .int .i64 0, .int .i64 0, .int .i64 0, .int .i64 0, .int .i64 0, .int .i64 0, .int .i64 0, .string ⟨#[]⟩] 64 : Obj) = .cells (pv0 p).cells.toArray 64 := rfl
theorem pvs_one (l : List Pv) : ∀ u ∈ l.flatMap Pv.cells, u.oneCell' = true := by
  intro u hu
  obtain ⟨v, _, hv⟩ := List.mem_flatMap.1 hu
  exact pv_one v u hv
theorem own_head {w : World} {base n cl : Nat} {e : TypeId} {size : Nat} {q : Addr} {xs : List Value} (h : w.ownsRow base e size (.slice (some q) n cl) n xs) : ∃ g, q = ⟨g, 0, none⟩ := by
  rcases h.2 with ⟨h, _⟩ | ⟨g, cap, _, h, _⟩
  · cases h
  · cases h
    exact ⟨g, rfl⟩
theorem cl_ge {w : World} {base n cl : Nat} {e : TypeId} {size : Nat} {al : Option Addr} {xs : List Value} (h : w.ownsRow base e size (.slice al n cl) n xs) : al = none → cl = 0 := fun e => by
  subst e
  rcases h.2 with ⟨h, _⟩ | ⟨g, cap, _, h, _⟩
  · cases h
    rfl
  · cases h
set_option maxHeartbeats 4000000 in
set_option maxRecDepth 100000 in
theorem rplace_any (V : Value) (n base : Nat) (s : List Pv) (p : Pp) (w : World) (ho : w.ownsRow base 64 12 V n (s.flatMap Pv.cells)) (hb : base ≤ w.heap.size) (hn : n ≤ 1000) :
    Calls Try.prog 60 #[V, ep p] w fun e w' => ∃ v' L e0 R, e = .returned (.tuple #[v', .int .i64 (L.length : Nat)]) ∧ w'.ownsRow base 64 12 v' (L ++ e0 :: R).length ((L ++ e0 :: R).flatMap Pv.cells) ∧ PlcR s p L e0 R ∧ Kp No w w' := by
  obtain ⟨i0, hi0, hz0, hz1, hz2⟩ := info_parts info64
  obtain ⟨al, cl, rfl, hncl, hclm, hal⟩ := own_form ho
  have HRD := Lib.hid (show RdP w al n s from Rd.of_own pv_len (by omega) ho)
  have HL := Lib.hid HRD.out.1
  have HNN := Lib.hid (own_news ho).1
  have HCL := Lib.hid (cl_ge ho)
  have HO := Lib.hid ho
  unfold maxLen at hclm
  clear ho
  simp only [ep]
  go_enter Try.func60, Try.ntmps60
  go_wp2_with fail
  obtain ⟨w1, hw1⟩ : ∃ w1, w1 = w.alloc (.cells #[.int .i64 p.1, .int .i64 p.2] 39) := ⟨_, rfl⟩
  rw [← hw1]
  have hk1 : Kp No w w1 := by rw [hw1]; exact Kp.alloc _ _ _
  have hbx : w1.heap[w.heap.size]? = some (.cells #[.int .i64 p.1, .int .i64 p.2] 39 (0, 0)) := by rw [hw1]; exact heap_alloc_new _ _
  obtain ⟨gb, hgb⟩ : ∃ gb, gb = w.heap.size := ⟨_, rfl⟩
  rw [← hgb] at hbx ⊢
  have HBX := Lib.hid hbx
  clear hw1 hbx hgb
  go_loopw [6] (fun vi wr => ∃ i : Nat, i ≤ n ∧ vi = .int .i64 i ∧ (∀ u ∈ s.take i, ltP u.p p = true) ∧ Kp No w1 wr) (fun vi _ => n - (intOf vi).toNat)
  case atStart => exact ⟨0, by omega, rfl, by simp, Kp.refl _ _⟩
  case round =>
    obtain ⟨i, hi, rfl, hlo, hkp⟩ := hrel
    have HLO := Lib.hid hlo
    have hbr := hkp.heap HBX.out id
    have b0 : wr.cell? ⟨gb, 0, none⟩ = some (.int .i64 p.1) := by rw [cell_of_row _ _ _ _ _ _ hbr]; rfl
    have b1 : wr.cell? ⟨gb, 1, none⟩ = some (.int .i64 p.2) := by rw [cell_of_row _ _ _ _ _ _ hbr]; rfl
    clear hlo hbr
    by_cases hlt : i < n
    · obtain ⟨u, hu⟩ : ∃ u, s[i]? = some u := ⟨_, List.getElem?_eq_getElem (by rw [HL.out]; omega)⟩
      obtain ⟨g, rfl⟩ := hal (by omega)
      obtain ⟨d0, d1, d2, d3, d4, d5, d6, d7, d8, d9, d10, d11⟩ := PvAt.of (row_at pv_len ((hk1.tr hkp).owns HO.out fun _ _ h => h) (by decide) hu)
      have HU := Lib.hid hu
      have hcast : (i : Int) < (n : Int) := by omega
      clear hu d2 d3 d4 d5 d6 d7 d8 d9 d10 d11
      cases hq : ltP u.p p with
      | true =>
        have HQ := Lib.hid hq
        clear hq
        go_wp2_with fail
        have FS : Stab (fun ix wz u => True) := fun ix u wz wz' kz h => trivial
        replace FS := Lib.hid FS
        refine wp_region_each (fun ix uR => match ix with | 0 => uR = .int .i64 (i : Int) | 1 => uR = .slice (some ⟨g, 0, none⟩) n cl | 2 => uR = .int .i64 (n : Int) | 3 => uR = .bool true | 4 => uR = .bool true | 5 => uR = .slice (some ⟨g, 0, none⟩) n cl | 6 => uR = .int .i64 (i : Int) | 7 => uR = .pointer (some ⟨g, i * 12, none⟩) | 8 => uR = .pointer (some ⟨g, i * 12, none⟩) | 9 => uR = ep u.p | 10 => uR = ep p | 11 => uR = .bool true | 12 => uR = .bool true | _ => True) (HvW wr (fun ix wz u => True)) (by kernel_rfl) (by kernel_rfl) (by kernel_rfl) ?_ ?_ ?_
        · exact HvW.start _ _
        · refine ⟨?_, ?_, ?_, ?_, ?_, ?_, ?_, ?_, ?_, ?_, ?_, ?_, ?_, trivial⟩
          · intro r a w' hf hg hW hr hd K hK
            refine wpOp_of rfl rfl ?_
            have e0 : a.tmps.getD 6 undef = .int .i64 (i : Int) := hf.evalFree (by kernel_rfl)
            go_simp
            exact hK _ _ rfl (hW.upd 0 _ trivial)
          · intro r a w' hf hg hW hr hd K hK
            refine wpOp_of rfl rfl ?_
            have e0 : a.tmps.getD 0 undef = .slice (some ⟨g, 0, none⟩) n cl := hf.evalFree (by kernel_rfl)
            go_simp
            exact hK _ _ rfl (hW.upd 1 _ trivial)
          · intro r a w' hf hg hW hr hd K hK
            refine wpOp_of rfl rfl ?_
            refine hf.depE hg hd 1 9 (by kernel_rfl) fun u0 e0 g0 h0 => ?_
            replace g0 : u0 = .slice (some ⟨g, 0, none⟩) n cl := g0
            subst g0
            go_simp
            exact hK _ _ rfl (hW.upd 2 _ trivial)
          · intro r a w' hf hg hW hr hd K hK
            refine wpOp_of rfl rfl ?_
            refine hf.depE hg hd 0 8 (by kernel_rfl) fun u0 e0 g0 h0 => ?_
            replace g0 : u0 = .int .i64 (i : Int) := g0
            subst g0
            refine hf.depE hg hd 2 10 (by kernel_rfl) fun u1 e1 g1 h1 => ?_
            replace g1 : u1 = .int .i64 (n : Int) := g1
            subst g1
            have h00 : decide ((i : Int) < (n : Int)) = true := decide_eq_true hcast
            have h01 : decide (i < n) = true := decide_eq_true hlt
            go_simp
            exact hK _ _ rfl (hW.upd 3 _ trivial)
          · intro r a w' hf hg hW hr hd K hK
            refine wpOp_of rfl rfl ?_
            refine hf.depE hg hd 3 11 (by kernel_rfl) fun u0 e0 g0 h0 => ?_
            replace g0 : u0 = .bool true := g0
            subst g0
            go_simp
            exact hK _ _ rfl (hW.upd 4 _ trivial)
          · intro r a w' hf hg hW hr hd K hK
            refine hf.depE hg hd 4 12 (by kernel_rfl) fun uG eG gG _ => ?_
            replace gG : uG = .bool true := gG
            subst gG
            refine wpOp_run rfl rfl rfl rfl eG ?_
            have e0 : a.tmps.getD 0 undef = .slice (some ⟨g, 0, none⟩) n cl := hf.evalFree (by kernel_rfl)
            go_simp
            exact hK _ _ rfl (hW.upd 5 _ trivial)
          · intro r a w' hf hg hW hr hd K hK
            refine hf.depE hg hd 4 12 (by kernel_rfl) fun uG eG gG _ => ?_
            replace gG : uG = .bool true := gG
            subst gG
            refine wpOp_run rfl rfl rfl rfl eG ?_
            have e0 : a.tmps.getD 6 undef = .int .i64 (i : Int) := hf.evalFree (by kernel_rfl)
            go_simp
            exact hK _ _ rfl (hW.upd 6 _ trivial)
          · intro r a w' hf hg hW hr hd K hK
            refine hf.depE hg hd 4 12 (by kernel_rfl) fun uG eG gG _ => ?_
            replace gG : uG = .bool true := gG
            subst gG
            refine wpOp_run rfl rfl rfl rfl eG ?_
            refine hf.depE hg hd 5 13 (by kernel_rfl) fun u0 e0 g0 h0 => ?_
            replace g0 : u0 = .slice (some ⟨g, 0, none⟩) n cl := g0
            subst g0
            refine hf.depE hg hd 6 14 (by kernel_rfl) fun u1 e1 g1 h1 => ?_
            replace g1 : u1 = .int .i64 (i : Int) := g1
            subst g1
            go_simp
            exact hK _ _ rfl (hW.upd 7 _ trivial)
          · intro r a w' hf hg hW hr hd K hK
            refine hf.depE hg hd 4 12 (by kernel_rfl) fun uG eG gG _ => ?_
            replace gG : uG = .bool true := gG
            subst gG
            refine wpOp_run rfl rfl rfl rfl eG ?_
            refine hf.depE hg hd 7 15 (by kernel_rfl) fun u0 e0 g0 h0 => ?_
            replace g0 : u0 = .pointer (some ⟨g, i * 12, none⟩) := g0
            subst g0
            go_simp
            exact hK _ _ rfl (hW.upd 8 _ trivial)
          · intro r a w' hf hg hW hr hd K hK
            refine hf.depE hg hd 4 12 (by kernel_rfl) fun uG eG gG _ => ?_
            replace gG : uG = .bool true := gG
            subst gG
            refine wpOp_run rfl rfl rfl rfl eG ?_
            refine hf.depE hg hd 8 16 (by kernel_rfl) fun u0 e0 g0 h0 => ?_
            replace g0 : u0 = .pointer (some ⟨g, i * 12, none⟩) := g0
            subst g0
            have z0 := hW.kp.cell d0 id
            have z1 := hW.kp.cell d1 id
            go_simp
            exact hK _ _ rfl (hW.upd 9 _ trivial)
          · intro r a w' hf hg hW hr hd K hK
            refine hf.depE hg hd 4 12 (by kernel_rfl) fun uG eG gG _ => ?_
            replace gG : uG = .bool true := gG
            subst gG
            refine wpOp_run rfl rfl rfl rfl eG ?_
            have e0 : a.tmps.getD 3 undef = .pointer (some ⟨gb, 0, none⟩) := hf.evalFree (by kernel_rfl)
            have z0 := hW.kp.cell b0 id
            have z1 := hW.kp.cell b1 id
            go_simp
            exact hK _ _ rfl (hW.upd 10 _ trivial)
          · intro r a w' hf hg hW hr hd K hK
            refine hf.depE hg hd 4 12 (by kernel_rfl) fun uG eG gG _ => ?_
            replace gG : uG = .bool true := gG
            subst gG
            refine wpOp_run rfl rfl rfl rfl eG ?_
            refine hf.depE hg hd 9 17 (by kernel_rfl) fun u0 e0 g0 h0 => ?_
            replace g0 : u0 = ep u.p := g0
            subst g0
            refine hf.depE hg hd 10 18 (by kernel_rfl) fun u1 e1 g1 h1 => ?_
            replace g1 : u1 = ep p := g1
            subst g1
            go_simp
            refine (rless_any u.p p w').mono ?_
            rw [HQ.out]
            rintro e w'' ⟨rfl, k'⟩
            exact hK _ _ rfl ((hW.call FS.out k').upd 11 _ trivial)
          · intro r a w' hf hg hW hr hd K hK
            refine wpOp_of rfl rfl ?_
            refine hf.depE hg hd 4 12 (by kernel_rfl) fun u0 e0 g0 h0 => ?_
            replace g0 : u0 = .bool true := g0
            subst g0
            have e0' := get_of_getD e0
            refine hf.depE hg hd 11 19 (by kernel_rfl) fun u1 e1 g1 h1 => ?_
            replace g1 : u1 = .bool true := g1
            subst g1
            have e1' := get_of_getD e1
            go_simp
            exact hK _ _ rfl (hW.upd 12 _ trivial)
        intro r' wq hg hW hr'
        have hkN := hW.kp
        obtain ⟨q12, hq12⟩ : ∃ u, r' 12 = some u := Option.ne_none_iff_exists'.1 (hr' 12 (by decide))
        have hk12 := hg 12 q12 hq12
        replace hk12 : q12 = .bool true := hk12
        subst hk12
        simp only [List.length_cons, List.length_nil, Nat.reduceAdd, List.range_succ, List.range_zero, List.nil_append, List.cons_append, List.map_cons, List.map_nil, putAll, Act.put, List.setIfInBounds_toArray, List.set_cons_succ, List.set_cons_zero, hq12, Option.getD_some]
        clear hg hW hr' FS hq12
        go_wp2_with fail
        go_roundw
        case rel =>
          refine ⟨i + 1, by omega, by go_num, fun v hv => ?_, hkp.tr hkN⟩
          rw [List.take_add_one, HU.out] at hv
          rcases List.mem_append.1 hv with hv | hv
          · exact HLO.out v hv
          · simp at hv
            rw [hv]
            exact HQ.out
        case measure => simp [intOf]; omega
      | false =>
        have HQ := Lib.hid hq
        clear hq
        go_wp2_with fail
        have FS : Stab (fun ix wz u => True) := fun ix u wz wz' kz h => trivial
        replace FS := Lib.hid FS
        refine wp_region_each (fun ix uR => match ix with | 0 => uR = .int .i64 (i : Int) | 1 => uR = .slice (some ⟨g, 0, none⟩) n cl | 2 => uR = .int .i64 (n : Int) | 3 => uR = .bool true | 4 => uR = .bool true | 5 => uR = .slice (some ⟨g, 0, none⟩) n cl | 6 => uR = .int .i64 (i : Int) | 7 => uR = .pointer (some ⟨g, i * 12, none⟩) | 8 => uR = .pointer (some ⟨g, i * 12, none⟩) | 9 => uR = ep u.p | 10 => uR = ep p | 11 => uR = .bool false | 12 => uR = .bool false | _ => True) (HvW wr (fun ix wz u => True)) (by kernel_rfl) (by kernel_rfl) (by kernel_rfl) ?_ ?_ ?_
        · exact HvW.start _ _
        · refine ⟨?_, ?_, ?_, ?_, ?_, ?_, ?_, ?_, ?_, ?_, ?_, ?_, ?_, trivial⟩
          · intro r a w' hf hg hW hr hd K hK
            refine wpOp_of rfl rfl ?_
            have e0 : a.tmps.getD 6 undef = .int .i64 (i : Int) := hf.evalFree (by kernel_rfl)
            go_simp
            exact hK _ _ rfl (hW.upd 0 _ trivial)
          · intro r a w' hf hg hW hr hd K hK
            refine wpOp_of rfl rfl ?_
            have e0 : a.tmps.getD 0 undef = .slice (some ⟨g, 0, none⟩) n cl := hf.evalFree (by kernel_rfl)
            go_simp
            exact hK _ _ rfl (hW.upd 1 _ trivial)
          · intro r a w' hf hg hW hr hd K hK
            refine wpOp_of rfl rfl ?_
            refine hf.depE hg hd 1 9 (by kernel_rfl) fun u0 e0 g0 h0 => ?_
            replace g0 : u0 = .slice (some ⟨g, 0, none⟩) n cl := g0
            subst g0
            go_simp
            exact hK _ _ rfl (hW.upd 2 _ trivial)
          · intro r a w' hf hg hW hr hd K hK
            refine wpOp_of rfl rfl ?_
            refine hf.depE hg hd 0 8 (by kernel_rfl) fun u0 e0 g0 h0 => ?_
            replace g0 : u0 = .int .i64 (i : Int) := g0
            subst g0
            refine hf.depE hg hd 2 10 (by kernel_rfl) fun u1 e1 g1 h1 => ?_
            replace g1 : u1 = .int .i64 (n : Int) := g1
            subst g1
            have h00 : decide ((i : Int) < (n : Int)) = true := decide_eq_true hcast
            have h01 : decide (i < n) = true := decide_eq_true hlt
            go_simp
            exact hK _ _ rfl (hW.upd 3 _ trivial)
          · intro r a w' hf hg hW hr hd K hK
            refine wpOp_of rfl rfl ?_
            refine hf.depE hg hd 3 11 (by kernel_rfl) fun u0 e0 g0 h0 => ?_
            replace g0 : u0 = .bool true := g0
            subst g0
            go_simp
            exact hK _ _ rfl (hW.upd 4 _ trivial)
          · intro r a w' hf hg hW hr hd K hK
            refine hf.depE hg hd 4 12 (by kernel_rfl) fun uG eG gG _ => ?_
            replace gG : uG = .bool true := gG
            subst gG
            refine wpOp_run rfl rfl rfl rfl eG ?_
            have e0 : a.tmps.getD 0 undef = .slice (some ⟨g, 0, none⟩) n cl := hf.evalFree (by kernel_rfl)
            go_simp
            exact hK _ _ rfl (hW.upd 5 _ trivial)
          · intro r a w' hf hg hW hr hd K hK
            refine hf.depE hg hd 4 12 (by kernel_rfl) fun uG eG gG _ => ?_
            replace gG : uG = .bool true := gG
            subst gG
            refine wpOp_run rfl rfl rfl rfl eG ?_
            have e0 : a.tmps.getD 6 undef = .int .i64 (i : Int) := hf.evalFree (by kernel_rfl)
            go_simp
            exact hK _ _ rfl (hW.upd 6 _ trivial)
          · intro r a w' hf hg hW hr hd K hK
            refine hf.depE hg hd 4 12 (by kernel_rfl) fun uG eG gG _ => ?_
            replace gG : uG = .bool true := gG
            subst gG
            refine wpOp_run rfl rfl rfl rfl eG ?_
            refine hf.depE hg hd 5 13 (by kernel_rfl) fun u0 e0 g0 h0 => ?_
            replace g0 : u0 = .slice (some ⟨g, 0, none⟩) n cl := g0
            subst g0
            refine hf.depE hg hd 6 14 (by kernel_rfl) fun u1 e1 g1 h1 => ?_
            replace g1 : u1 = .int .i64 (i : Int) := g1
            subst g1
            go_simp
            exact hK _ _ rfl (hW.upd 7 _ trivial)
          · intro r a w' hf hg hW hr hd K hK
            refine hf.depE hg hd 4 12 (by kernel_rfl) fun uG eG gG _ => ?_
            replace gG : uG = .bool true := gG
            subst gG
            refine wpOp_run rfl rfl rfl rfl eG ?_
            refine hf.depE hg hd 7 15 (by kernel_rfl) fun u0 e0 g0 h0 => ?_
            replace g0 : u0 = .pointer (some ⟨g, i * 12, none⟩) := g0
            subst g0
            go_simp
            exact hK _ _ rfl (hW.upd 8 _ trivial)
          · intro r a w' hf hg hW hr hd K hK
            refine hf.depE hg hd 4 12 (by kernel_rfl) fun uG eG gG _ => ?_
            replace gG : uG = .bool true := gG
            subst gG
            refine wpOp_run rfl rfl rfl rfl eG ?_
            refine hf.depE hg hd 8 16 (by kernel_rfl) fun u0 e0 g0 h0 => ?_
            replace g0 : u0 = .pointer (some ⟨g, i * 12, none⟩) := g0
            subst g0
            have z0 := hW.kp.cell d0 id
            have z1 := hW.kp.cell d1 id
            go_simp
            exact hK _ _ rfl (hW.upd 9 _ trivial)
          · intro r a w' hf hg hW hr hd K hK
            refine hf.depE hg hd 4 12 (by kernel_rfl) fun uG eG gG _ => ?_
            replace gG : uG = .bool true := gG
            subst gG
            refine wpOp_run rfl rfl rfl rfl eG ?_
            have e0 : a.tmps.getD 3 undef = .pointer (some ⟨gb, 0, none⟩) := hf.evalFree (by kernel_rfl)
            have z0 := hW.kp.cell b0 id
            have z1 := hW.kp.cell b1 id
            go_simp
            exact hK _ _ rfl (hW.upd 10 _ trivial)
          · intro r a w' hf hg hW hr hd K hK
            refine hf.depE hg hd 4 12 (by kernel_rfl) fun uG eG gG _ => ?_
            replace gG : uG = .bool true := gG
            subst gG
            refine wpOp_run rfl rfl rfl rfl eG ?_
            refine hf.depE hg hd 9 17 (by kernel_rfl) fun u0 e0 g0 h0 => ?_
            replace g0 : u0 = ep u.p := g0
            subst g0
            refine hf.depE hg hd 10 18 (by kernel_rfl) fun u1 e1 g1 h1 => ?_
            replace g1 : u1 = ep p := g1
            subst g1
            go_simp
            refine (rless_any u.p p w').mono ?_
            rw [HQ.out]
            rintro e w'' ⟨rfl, k'⟩
            exact hK _ _ rfl ((hW.call FS.out k').upd 11 _ trivial)
          · intro r a w' hf hg hW hr hd K hK
            refine wpOp_of rfl rfl ?_
            refine hf.depE hg hd 4 12 (by kernel_rfl) fun u0 e0 g0 h0 => ?_
            replace g0 : u0 = .bool true := g0
            subst g0
            have e0' := get_of_getD e0
            refine hf.depE hg hd 11 19 (by kernel_rfl) fun u1 e1 g1 h1 => ?_
            replace g1 : u1 = .bool false := g1
            subst g1
            have e1' := get_of_getD e1
            go_simp
            exact hK _ _ rfl (hW.upd 12 _ trivial)
        intro r' wq hg hW hr'
        have hkN := hW.kp
        obtain ⟨q12, hq12⟩ : ∃ u, r' 12 = some u := Option.ne_none_iff_exists'.1 (hr' 12 (by decide))
        have hk12 := hg 12 q12 hq12
        replace hk12 : q12 = .bool false := hk12
        subst hk12
        simp only [List.length_cons, List.length_nil, Nat.reduceAdd, List.range_succ, List.range_zero, List.nil_append, List.cons_append, List.map_cons, List.map_nil, putAll, Act.put, List.setIfInBounds_toArray, List.set_cons_succ, List.set_cons_zero, hq12, Option.getD_some]
        clear hg hW hr' FS hq12
        have hkq := hkp.tr hkN
        have hbr := hkq.heap HBX.out id
        have b0 : wq.cell? ⟨gb, 0, none⟩ = some (.int .i64 p.1) := by rw [cell_of_row _ _ _ _ _ _ hbr]; rfl
        have b1 : wq.cell? ⟨gb, 1, none⟩ = some (.int .i64 p.2) := by rw [cell_of_row _ _ _ _ _ _ hbr]; rfl
        obtain ⟨d0, d1, _⟩ := PvAt.of (row_at pv_len ((hk1.tr hkq).owns HO.out fun _ _ h => h) (by decide) HU.out)
        have hkw := hk1.tr hkq
        have HE := fun w' => pp_equal w' u.p p
        simp only [ep] at HE
        clear hbr hkp hkN
        by_cases he : u.p = p
        · rw [decide_eq_true he] at HE
          have HPL := Lib.hid (plc_found HU.out he HLO.out)
          clear he
          go_wp2_with fail
          go_quiet (fail)
          have hkz := hkw.tr (Kp.drewN No wq nq)
          have HOZ := Lib.hid (hkz.owns HO.out fun _ _ h => h)
          generalize wq.drewN nq = wz at hkz HOZ ⊢
          go_wp2_with fail
          refine bodyPost_ret (v := .tuple #[.slice (some ⟨g, 0, none⟩) n cl, .int .i64 i]) (by simp [results, Try.results60, go_sem]) rfl ⟨_, s.take i, u, s.drop (i + 1), by rw [List.length_take, HL.out, Nat.min_eq_left hi], ?_, HPL.out.1, hkz⟩
          rw [HPL.out.2, HL.out]
          exact HOZ.out
        · rw [decide_eq_false he] at HE
          have HPL := Lib.hid (plc_new HLO.out (fun v hv => by rw [HU.out] at hv; cases hv; exact ⟨HQ.out, he⟩))
          clear he
          go_wp2_with fail
          go_quiet (fail)
          have hkz := hkw.tr (Kp.drewN No wq nq)
          have HBZ := Lib.hid ((hkq.tr (Kp.drewN No wq nq)).heap HBX.out id)
          clear b0 b1 d0 d1 HE hkq hkw
          generalize wq.drewN nq = wz at hkz HBZ ⊢
          have HRZ := Lib.hid (HRD.out.no hkz)
          have hsz := hkz.size
          go_wp2_with (at_builtin; refine stop_in ?_)
          refine stop_out ?_
          refine wpL_append_any rfl _ _ 29 rfl w.heap.size 64 i0 (Pv.val default) 12 104 Try.underlying29 hi0 hz0 hz1 hz2 rfl (by decide) (.slice (some ⟨wz.heap.size, 0, none⟩) 0 0) 0 [] rfl (own_empty hsz) (some ⟨g, 0, none⟩) i cl ((s.take i).flatMap Pv.cells) rfl (by rw [flat_len pv_len, List.length_take, HL.out]; omega) (fun h => by have h1 := HNN.out h; omega) (rd_newsK pv_len (by decide) ((Rd.takeK HRZ.out (by omega)).no (Kp.alloc No wz (.cells #[] 64)))) (pvs_one _) (by unfold maxLen; omega) (by omega) (by simp; omega) ?_
          intro va wa howna hgrowa hata
          have hka : Kp No w wa := (hkz.tr (Kp.alloc No wz (.cells #[] 64))).trans (Kp.grown (S := Kq.One wz.heap.size) hgrowa fun k hk _ => by simp [Value.ownBlock] at hk; exact hk.symm) fun k hk e => by
            have e : k = wz.heap.size := e
            omega
          have hza : Kp (Kq.One wz.heap.size) wz wa := (Kp.alloc _ wz (.cells #[] 64)).tr (Kp.grown hgrowa fun k hk _ => by simp [Value.ownBlock] at hk; exact hk.symm)
          have hbw := hza.heap HBZ.out (fun e => by have := (Array.getElem?_eq_some_iff.1 HBZ.out).1; have e : gb = wz.heap.size := e; omega)
          have b0 : wa.cell? ⟨gb, 0, none⟩ = some (.int .i64 p.1) := by rw [cell_of_row _ _ _ _ _ _ hbw]; rfl
          have b1 : wa.cell? ⟨gb, 1, none⟩ = some (.int .i64 p.2) := by rw [cell_of_row _ _ _ _ _ _ hbw]; rfl
          obtain ⟨aa, ca, rfl, _, _, _⟩ := own_form howna
          rw [Nat.zero_add, List.nil_append] at howna
          rw [Nat.zero_add]
          have HOA := Lib.hid howna
          clear howna hgrowa hata hza hbw HRZ hsz hkz HBZ
          go_wp2_with (at_builtin; refine stop_in ?_)
          refine stop_out ?_
          refine wpL_append_any rfl _ _ 29 rfl w.heap.size 64 i0 (Pv.val default) 12 104 Try.underlying29 hi0 hz0 hz1 hz2 rfl (by decide) (.slice aa i ca) i ((s.take i).flatMap Pv.cells) rfl (HOA.out.alloc (.cells (pv0 p).cells.toArray 64)) (some ⟨wa.heap.size, 0, none⟩) 1 1 (pv0 p).cells rfl rfl (fun h => (by cases h)) (new_pv wa (pv0 p)) (pv_one _) (by unfold maxLen; omega) (by omega) (by have := hka.size; simp; omega) ?_
          intro vb wb hownb hgrowb hatb
          have hkb : Kp No w wb := kp_app hka HOA.out (Nat.le_refl _) hgrowb
          obtain ⟨ab, cb, rfl, _, _, _⟩ := own_form hownb
          have HOB := Lib.hid hownb
          have HRB := Lib.hid (HRD.out.no hkb)
          have hsb := hkb.size
          clear hownb hgrowb hatb HOA hka b0 b1
          have hci : i < cl := by omega
          go_wp2_with (at_builtin; refine stop_in ?_)
          refine stop_out ?_
          refine wpL_append_any rfl _ _ 29 rfl w.heap.size 64 i0 (Pv.val default) 12 104 Try.underlying29 hi0 hz0 hz1 hz2 rfl (by decide) (.slice ab (i + 1) cb) (i + 1) _ rfl HOB.out (some ⟨g, i * 12, none⟩) (n - i) (cl - i) ((s.drop i).flatMap Pv.cells) rfl (by rw [flat_len pv_len, List.length_drop, HL.out]) (fun h => (by cases h)) (rd_newsK pv_len (by decide) (by have h := Rd.dropK HRB.out (i := i); rwa [Nat.zero_add] at h)) (pvs_one _) (by unfold maxLen; omega) (by omega) (by omega) ?_
          intro vc wc hownc hgrowc hatc
          have hkc : Kp No w wc := kp_app0 hkb HOB.out (Nat.le_refl _) hgrowc
          obtain ⟨ac, cc, rfl, _, _, _⟩ := own_form hownc
          have HOC := Lib.hid hownc
          clear hownc hgrowc hatc HOB
          go_wp2_with fail
          refine bodyPost_ret (v := .tuple #[.slice ac (i + 1 + (n - i)) cc, .int .i64 i]) (by simp [results, Try.results60, go_sem]) rfl ⟨_, s.take i, pv0 p, s.drop i, by rw [List.length_take, HL.out, Nat.min_eq_left (by omega)], ?_, HPL.out, hkc⟩
          rw [List.flatMap_append, List.flatMap_cons, List.length_append, List.length_take, HL.out, List.length_cons, List.length_drop, HL.out, Nat.min_eq_left (by omega : i ≤ n), show i + (n - i + 1) = i + 1 + (n - i) by omega, ← List.append_assoc]
          exact own_mono HOC.out hb
    · obtain rfl : i = n := by omega
      have hlt' : decide ((i : Int) < (i : Int)) = false := by rw [decide_eq_false_iff_not]; omega
      have HPL := Lib.hid (plc_new (s := s) (p := p) (i := i) HLO.out (fun v hv => by have := (List.getElem?_eq_some_iff.1 hv).1; rw [HL.out] at this; omega))
      go_wp2_with fail
      go_quiet (fail)
      have hky := hkp.tr (Kp.drewN No wr nq)
      have HBY := Lib.hid (hky.heap HBX.out id)
      have hby := HBY.out
      clear b0 b1
      generalize wr.drewN nq = wy at hky HBY hby ⊢
      have b0 : wy.cell? ⟨gb, 0, none⟩ = some (.int .i64 p.1) := by rw [cell_of_row _ _ _ _ _ _ hby]; rfl
      have b1 : wy.cell? ⟨gb, 1, none⟩ = some (.int .i64 p.2) := by rw [cell_of_row _ _ _ _ _ _ hby]; rfl
      clear hby
      go_wp2_with fail
      go_quiet (fail)
      have hkz := (hk1.tr hky).tr (Kp.drewN No wy nq)
      have HBZ := Lib.hid ((hky.tr (Kp.drewN No wy nq)).heap HBX.out id)
      clear b0 b1 hky HBY
      generalize wy.drewN nq = wz at hkz HBZ ⊢
      have HRZ := Lib.hid (HRD.out.no hkz)
      have hsz := hkz.size
      go_wp2_with (at_builtin; refine stop_in ?_)
      refine stop_out ?_
      refine wpL_append_any rfl _ _ 29 rfl w.heap.size 64 i0 (Pv.val default) 12 104 Try.underlying29 hi0 hz0 hz1 hz2 rfl (by decide) (.slice (some ⟨wz.heap.size, 0, none⟩) 0 0) 0 [] rfl (own_empty hsz) al i cl ((s.take i).flatMap Pv.cells) rfl (by rw [flat_len pv_len, List.length_take, HL.out]; omega) (fun h => by have h1 := HNN.out h; omega) (rd_newsK pv_len (by decide) ((Rd.takeK HRZ.out (by omega)).no (Kp.alloc No wz (.cells #[] 64)))) (pvs_one _) (by unfold maxLen; omega) (by omega) (by simp; omega) ?_
      intro va wa howna hgrowa hata
      have hka : Kp No w wa := (hkz.tr (Kp.alloc No wz (.cells #[] 64))).trans (Kp.grown (S := Kq.One wz.heap.size) hgrowa fun k hk _ => by simp [Value.ownBlock] at hk; exact hk.symm) fun k hk e => by
        have e : k = wz.heap.size := e
        omega
      have hza : Kp (Kq.One wz.heap.size) wz wa := (Kp.alloc _ wz (.cells #[] 64)).tr (Kp.grown hgrowa fun k hk _ => by simp [Value.ownBlock] at hk; exact hk.symm)
      have hbw := hza.heap HBZ.out (fun e => by have := (Array.getElem?_eq_some_iff.1 HBZ.out).1; have e : gb = wz.heap.size := e; omega)
      have b0 : wa.cell? ⟨gb, 0, none⟩ = some (.int .i64 p.1) := by rw [cell_of_row _ _ _ _ _ _ hbw]; rfl
      have b1 : wa.cell? ⟨gb, 1, none⟩ = some (.int .i64 p.2) := by rw [cell_of_row _ _ _ _ _ _ hbw]; rfl
      obtain ⟨aa, ca, rfl, _, _, _⟩ := own_form howna
      rw [Nat.zero_add, List.nil_append] at howna
      rw [Nat.zero_add]
      have HOA := Lib.hid howna
      clear howna hgrowa hata hza hbw HRZ hsz hkz HBZ
      go_wp2_with (at_builtin; refine stop_in ?_)
      refine stop_out ?_
      refine wpL_append_any rfl _ _ 29 rfl w.heap.size 64 i0 (Pv.val default) 12 104 Try.underlying29 hi0 hz0 hz1 hz2 rfl (by decide) (.slice aa i ca) i ((s.take i).flatMap Pv.cells) rfl (HOA.out.alloc (.cells (pv0 p).cells.toArray 64)) (some ⟨wa.heap.size, 0, none⟩) 1 1 (pv0 p).cells rfl rfl (fun h => (by cases h)) (new_pv wa (pv0 p)) (pv_one _) (by unfold maxLen; omega) (by omega) (by have := hka.size; simp; omega) ?_
      intro vb wb hownb hgrowb hatb
      have hkb : Kp No w wb := kp_app hka HOA.out (Nat.le_refl _) hgrowb
      obtain ⟨ab, cb, rfl, _, _, _⟩ := own_form hownb
      have HOB := Lib.hid hownb
      have HRB := Lib.hid (HRD.out.no hkb)
      have hsb := hkb.size
      clear hownb hgrowb hatb HOA hka b0 b1
      by_cases hcut : cl = i
      · subst hcut
        have HD0 := Lib.hid (show s.drop cl = [] from List.drop_eq_nil_of_le (by rw [HL.out]; exact Nat.le_refl _))
        go_wp2_with (at_builtin; refine stop_in ?_)
        refine stop_out ?_
        refine wpL_append_any rfl _ _ 29 rfl w.heap.size 64 i0 (Pv.val default) 12 104 Try.underlying29 hi0 hz0 hz1 hz2 rfl (by decide) (.slice ab (cl + 1) cb) (cl + 1) _ rfl HOB.out al 0 0 [] rfl rfl (fun _ => ⟨rfl, rfl⟩) (fun ad had j u hu => by cases hu) (fun u hu => by cases hu) (by unfold maxLen; omega) (by omega) (by omega) ?_
        intro vc wc hownc hgrowc hatc
        have hkc : Kp No w wc := kp_app0 hkb HOB.out (Nat.le_refl _) hgrowc
        obtain ⟨ac, cc, rfl, _, _, _⟩ := own_form hownc
        have HOC := Lib.hid hownc
        clear hownc hgrowc hatc HOB
        go_wp2_with fail
        refine bodyPost_ret (v := .tuple #[.slice ac (cl + 1) cc, .int .i64 cl]) (by simp [results, Try.results60, go_sem]) rfl ⟨_, s.take cl, pv0 p, s.drop cl, by rw [List.length_take, HL.out, Nat.min_self], ?_, HPL.out, hkc⟩
        rw [HD0.out, List.flatMap_append, List.flatMap_cons, List.length_append, List.length_take, HL.out, List.length_cons, Nat.min_self]
        have h := own_mono HOC.out hb
        simpa using h
      · have hci : i < cl := by omega
        obtain ⟨bg, rfl⟩ : ∃ q, al = some q := by
          cases al with
          | none => have := HCL.out rfl; omega
          | some q => exact ⟨q, rfl⟩
        obtain ⟨g, hg⟩ : ∃ g, bg = ⟨g, 0, none⟩ := own_head HO.out
        subst hg
        have HD0 := Lib.hid (show s.drop i = [] from List.drop_eq_nil_of_le (by rw [HL.out]; exact Nat.le_refl _))
        go_wp2_with (at_builtin; refine stop_in ?_)
        refine stop_out ?_
        refine wpL_append_any rfl _ _ 29 rfl w.heap.size 64 i0 (Pv.val default) 12 104 Try.underlying29 hi0 hz0 hz1 hz2 rfl (by decide) (.slice ab (i + 1) cb) (i + 1) _ rfl HOB.out (some ⟨g, i * 12, none⟩) 0 (cl - i) [] rfl rfl (fun h => (by cases h)) (fun ad had j u hu => by cases hu) (fun u hu => by cases hu) (by unfold maxLen; omega) (by omega) (by omega) ?_
        intro vc wc hownc hgrowc hatc
        have hkc : Kp No w wc := kp_app0 hkb HOB.out (Nat.le_refl _) hgrowc
        obtain ⟨ac, cc, rfl, _, _, _⟩ := own_form hownc
        have HOC := Lib.hid hownc
        clear hownc hgrowc hatc HOB
        go_wp2_with fail
        refine bodyPost_ret (v := .tuple #[.slice ac (i + 1) cc, .int .i64 i]) (by simp [results, Try.results60, go_sem]) rfl ⟨_, s.take i, pv0 p, s.drop i, by rw [List.length_take, HL.out, Nat.min_self], ?_, HPL.out, hkc⟩
        rw [HD0.out, List.flatMap_append, List.flatMap_cons, List.length_append, List.length_take, HL.out, List.length_cons, Nat.min_self]
        have h := own_mono HOC.out hb
        simpa using h
end Go.Proofs.Ytjbpdimepckmfaa
