/- Chapter 09: the reference's Spots: the walk. Printed by gen_nth.py. -/
import Derived.Test.YtamjhpdgclbfgaaXNtGM
import Derived.Test.YtamjhpdgclbfgaaXLibHwM
namespace Go.Proofs.Ytamjhpdgclbfgaa
open Go.RowKit Go.Kq

theorem cells4 {w : World} {B : Nat} {a b c d : Value} {t : TypeId} (h : w.heap[B]? = some (.cells #[a, b, c, d] t (0, 0))) : w.cell? ⟨B, 0, none⟩ = some a ∧ w.cell? ⟨B, 1, none⟩ = some b ∧ w.cell? ⟨B, 2, none⟩ = some c ∧ w.cell? ⟨B, 3, none⟩ = some d ∧ w.frozen? ⟨B, 0, none⟩ = false ∧ w.frozen? ⟨B, 1, none⟩ = false ∧ w.frozen? ⟨B, 2, none⟩ = false ∧ w.frozen? ⟨B, 3, none⟩ = false := by
  refine ⟨by rw [cell_of_row w B 0 _ _ _ h]; rfl, by rw [cell_of_row w B 1 _ _ _ h]; rfl, by rw [cell_of_row w B 2 _ _ _ h]; rfl, by rw [cell_of_row w B 3 _ _ _ h]; rfl, ?_, ?_, ?_, ?_⟩
  all_goals simp [World.frozen?, h]
theorem set4_at {w : World} {B : Nat} {x y z u : Value} {t : TypeId} (h : w.heap[B]? = some (.cells #[x, y, z, u] t (0, 0))) (a b c d : Value) : ((((w.setCell ⟨B, 0, none⟩ a).setCell ⟨B, 1, none⟩ b).setCell ⟨B, 2, none⟩ c).setCell ⟨B, 3, none⟩ d).heap[B]? = some (.cells #[a, b, c, d] t (0, 0)) := by
  simp [World.setCell, Array.getElem?_modify, h]
theorem set2_at {w : World} {B : Nat} {x y z u : Value} {t : TypeId} (h : w.heap[B]? = some (.cells #[x, y, z, u] t (0, 0))) (c : Value) : (w.setCell ⟨B, 2, none⟩ c).heap[B]? = some (.cells #[x, y, c, u] t (0, 0)) := by
  simp [World.setCell, Array.getElem?_modify, h]
theorem kp_set4 (w : World) (B : Nat) (a b c d : Value) : Kp (Kq.One B) w ((((w.setCell ⟨B, 0, none⟩ a).setCell ⟨B, 1, none⟩ b).setCell ⟨B, 2, none⟩ c).setCell ⟨B, 3, none⟩ d) :=
  (((kp_setOne _ _ _ _).tr (kp_setOne _ _ _ _)).tr (kp_setOne _ _ _ _)).tr (kp_setOne _ _ _ _)
theorem tot_bd {K : Int} (hK : 0 ≤ K ∧ K ≤ 50000) (o : Nat) : ∀ (r : List (Nat × Int)), (∀ x ∈ r, 0 ≤ x.2 ∧ x.2 ≤ 20000000) → 0 ≤ tot K r o ∧ tot K r o ≤ 20050000 * (r.length : Int)
  | [], _ => by simp [tot]
  | x :: r, h => by
    have h1 := h x (by simp)
    have h2 := tot_bd hK o r fun y hy => h y (by simp [hy])
    rw [tot_cons, List.length_cons]
    split <;> omega
theorem tot_take {K : Int} {S : List Nat} {H : List Int} {k s : Nat} {x : Int} (o : Nat) (hs : S[k]? = some s) (hx : H[k]? = some x) : tot K ((S.zip H).take (k + 1)) o = if s = o then tot K ((S.zip H).take k) o + x + K else tot K ((S.zip H).take k) o := by
  have hz : (S.zip H)[k]? = some (s, x) := List.getElem?_zip_eq_some.2 ⟨hs, hx⟩
  rw [List.take_add_one, hz, Option.toList_some, tot_snoc]
theorem H1.drewN {w3 wr : World} {base g1 M : Nat} {q : List Int} (h : H1 w3 base g1 M q wr) (n : Nat) : H1 w3 base g1 M q (wr.drewN n) := ⟨own_kp h.a (Kp.drewN No _ _) (fun _ _ h => h), h.k.tr (Kp.drewN _ _ _)⟩
theorem H1.put {w3 wr : World} {base g1 M : Nat} {q : List Int} (h : H1 w3 base g1 M q wr) (j : Nat) (x : Int) : H1 w3 base g1 M (q.set j x) (wr.setCell ⟨g1, j, none⟩ (.int .i64 x)) := by
  refine ⟨?_, h.k.tr (kp_setOne wr g1 j _)⟩
  rw [List.map_set]
  exact own_set h.a j _
theorem setn_same {q : List Int} {k : Nat} {v : Int} (h : q[k]? = some v) : q.set k v = q := by
  refine List.ext_getElem? fun j => ?_
  by_cases e : k = j
  · subst e
    rw [List.getElem?_set_self (List.getElem?_eq_some_iff.1 h).1, h]
  · rw [List.getElem?_set_ne e]
/-- The heights at which shelves lie, as far as they are reckoned. -/
def YL (K : Int) (ON : List Nat) (H : List Int) (m k : Nat) (ys : List Int) : Prop := ys.length = m ∧ ∀ j, j < m → ys[j]? = some (if j < k then tot K ((ON.zip H).take j) (ON.getD j 0) else 0)
theorem YL.all {K : Int} {ON : List Nat} {H : List Int} {m : Nat} {ys : List Int} (h : YL K ON H m m ys) (hl : H.length = m) : ys = ysR K ON H := by
  refine List.ext_getElem? fun j => ?_
  unfold ysR
  by_cases hj : j < m
  · rw [h.2 j hj, if_pos hj, List.getElem?_map, List.getElem?_range (by omega)]
    rfl
  · rw [List.getElem?_eq_none (by rw [h.1]; omega), List.getElem?_eq_none (by simp; omega)]
theorem YL.step {K : Int} {ON : List Nat} {H : List Int} {m k : Nat} {ys : List Int} {v : Int} (h : YL K ON H m k ys) (hk : k < m) (hv : v = tot K ((ON.zip H).take k) (ON.getD k 0)) : YL K ON H m (k + 1) (ys.set k v) := by
  refine ⟨by rw [List.length_set]; exact h.1, fun j hj => ?_⟩
  by_cases e : k = j
  · subst e
    rw [List.getElem?_set_self (by rw [h.1]; exact hk), if_pos (by omega), hv]
  · rw [List.getElem?_set_ne e, h.2 j hj]
    by_cases hjk : j < k
    · rw [if_pos hjk, if_pos (by omega)]
    · rw [if_neg hjk, if_neg (by omega)]
set_option maxHeartbeats 16000000 in
set_option maxRecDepth 100000 in
theorem rspots_any (P : Pt) (A : Option Addr) (n ca : Nat) (l : List Ct) (AS : Option Addr) (cs : Nat) (S : List Nat) (AO : Option Addr) (m co : Nat) (ON : List Nat) (H : List Int) (w : World) (hx : RdC w A n l) (hS : RdI .i64 w AS n (S.map Int.ofNat)) (hO : RdI .i64 w AO m (ON.map Int.ofNat)) (hn : n ≤ 8) (hok : CtOk l P.k) (hM : cntF S = m) (hm : m ≤ 8) (hh : hgtV P l S = some H) :
    Calls Try.prog 35 #[P.val, .slice A n ca, .agg #[.slice AS n cs, .slice AO m co]] w fun e w' => ∃ A' c', e = .returned (.slice A' n c') ∧ RdS w' A' n (spotsR P.k l S ON H) ∧ Kp No w w' := by
  obtain ⟨i0, hi0, hz0, hz1, hz2⟩ := info_parts infoSp
  obtain ⟨w1, hw1⟩ : ∃ w1, (w.alloc (.cells #[.int .i64 P.w, .int .i64 P.h, .int .i64 P.k] 23)).alloc (.cells #[.slice AS n cs, .slice AO m co] 69) = w1 := ⟨_, rfl⟩
  have hk1 : Kp No w w1 := by rw [← hw1]; exact (Kp.alloc _ _ _).tr (Kp.alloc _ _ _)
  obtain ⟨gP, hgP⟩ : ∃ g, w.heap.size = g := ⟨_, rfl⟩
  obtain ⟨gN, hgN⟩ : ∃ g, gP + 1 = g := ⟨_, rfl⟩
  have hb0 : w1.heap[gP]? = some (.cells #[.int .i64 P.w, .int .i64 P.h, .int .i64 P.k] 23 (0, 0)) := by
    rw [← hw1, ← hgP]
    exact (Kp.alloc No _ _).heap (heap_alloc_new _ _) id
  have hb1 : w1.heap[gN]? = some (.cells #[.slice AS n cs, .slice AO m co] 69 (0, 0)) := by
    rw [← hw1, ← hgN, ← hgP]
    have := heap_alloc_new (w.alloc (.cells #[.int .i64 P.w, .int .i64 P.h, .int .i64 P.k] 23)) (.cells #[.slice AS n cs, .slice AO m co] 69)
    simpa using this
  have HH := Lib.hid (heights_any P A n ca l AS cs S w1 (hx.no hk1) (hS.no hk1) hn hok (by omega))
  obtain ⟨hHl, hHb⟩ := hgt_facts hok hh
  have HHB := Lib.hid hHb
  have hHm : H.length = m := by rw [hHl, hM]
  rw [hh] at HH
  have hmk := fun W => make_l m (by omega) W
  have p0 : w1.cell? ⟨gP, 0, none⟩ = some (.int .i64 P.w) := by rw [cell_of_row _ _ _ _ _ _ hb0]; rfl
  have p1 : w1.cell? ⟨gP, 1, none⟩ = some (.int .i64 P.h) := by rw [cell_of_row _ _ _ _ _ _ hb0]; rfl
  have p2 : w1.cell? ⟨gP, 2, none⟩ = some (.int .i64 P.k) := by rw [cell_of_row _ _ _ _ _ _ hb0]; rfl
  have q0 : w1.cell? ⟨gN, 0, none⟩ = some (.slice AS n cs) := by rw [cell_of_row _ _ _ _ _ _ hb1]; rfl
  have q1 : w1.cell? ⟨gN, 1, none⟩ = some (.slice AO m co) := by rw [cell_of_row _ _ _ _ _ _ hb1]; rfl
  have hSl := nat_len hS
  have hOl := nat_len hO
  have hLl := hx.1
  have HSM := Lib.hid (show ∀ s ∈ S, s < m from fun s hs => by have := cntF_lt s hs; omega)
  have HX := Lib.hid (hx.no hk1)
  have HSR := Lib.hid (hS.no hk1)
  have HOR := Lib.hid (hO.no hk1)
  have HOK := Lib.hid hok
  unfold Pt.val at *
  have HK1 := Lib.hid hk1
  have HRV := Lib.hid (show spotsR P.k l S ON H = (List.range n).map (spoR P.k l S ON (ysR P.k ON H)) by rw [← hLl]; rfl)
  clear hx hS hO hok hb0 hb1 hk1 hHb hHl hh
  go_enter Try.func35, Try.ntmps35
  go_wp2_with fail
  clear hw1 hgP hgN
  with_reducible refine HH.out.mono ?_
  rintro e w2 ⟨hr, k2⟩
  obtain ⟨AH, mh, ch, rfl, hri, _⟩ := hr
  obtain rfl : mh = m := by rw [← hri.1, hHm]
  have HK2 := Lib.hid (HK1.out.tr k2)
  replace p0 := k2.cell p0 id
  replace p1 := k2.cell p1 id
  replace p2 := k2.cell p2 id
  replace q0 := k2.cell q0 id
  replace q1 := k2.cell q1 id
  replace HX := Lib.hid (HX.out.no k2)
  replace HSR := Lib.hid (HSR.out.no k2)
  replace HOR := Lib.hid (HOR.out.no k2)
  have HHR := Lib.hid hri
  clear k2 HH HK1 hri p0 p1
  go_wp2_with fail
  obtain ⟨gy, hgy⟩ : ∃ g, w2.heap.size = g := ⟨_, rfl⟩
  have A1 := own_zero (base := gy) (g := w2.heap.size) (by omega) (show mh ≤ 100000 by omega) (heap_alloc_new w2 (.cells (zL mh) 2))
  have k3 : Kp No w2 (w2.alloc (.cells (zL mh) 2)) := Kp.alloc _ _ _
  rw [hgy] at A1 ⊢
  have bP : gP < gy := by rw [← hgy]; exact World.block_lt_of_cell? _ _ p2
  have bN : gN < gy := by rw [← hgy]; exact World.block_lt_of_cell? _ _ q0
  have HYB := Lib.hid (show ∀ b, b < w2.heap.size → b ≠ gy from fun b hb => by omega)
  have HGY := Lib.hid hgy
  generalize (w2.alloc (.cells (zL mh) 2)) = w3 at *
  have HI0 := Lib.hid (show H1 w3 gy gy mh (List.replicate mh 0) w3 from ⟨A1, Kp.refl _ _⟩)
  have hP2 := k3.cell p2 id
  have hQ0 := k3.cell q0 id
  have hQ1 := k3.cell q1 id
  have K3 := Lib.hid k3
  have HP2 := Lib.hid hP2
  have HQ0 := Lib.hid hQ0
  have HQ1 := Lib.hid hQ1
  clear A1 k3 p2 q0 q1 hgy hmk hP2 hQ0 hQ1
  go_loopw [10] (fun i wr => ∃ (k : Nat) (ys : List Int), k ≤ mh ∧ i = .int .i64 k ∧ YL P.k ON H mh k ys ∧ H1 w3 gy gy mh ys wr) (fun i _ => mh - (intOf i).toNat)
  case atStart => exact ⟨0, List.replicate mh 0, by omega, rfl, ⟨by simp, fun j hj => by rw [List.getElem?_replicate, if_pos hj, if_neg (by omega)]⟩, HI0.out⟩
  case round =>
    obtain ⟨k, ys, hk, rfl, hys, hq⟩ := hrel
    have HYS := Lib.hid hys
    have HQ := Lib.hid hq
    clear hys hq HI0
    by_cases hkm : k < mh
    · obtain ⟨o, ho⟩ : ∃ o, ON[k]? = some o := ⟨_, List.getElem?_eq_getElem (by omega)⟩
      have hkm' : (k : Int) < mh := by omega
      have hod : ON.getD k 0 = o := by rw [List.getD_eq_getElem?_getD, ho]; rfl
      obtain ⟨bO, oO, rfl, hbO, cOk⟩ := HOR.out.2 k _ (nat_at ho)
      have HYK := Lib.hid (show ys[k]? = some 0 by rw [HYS.out.2 k hkm, if_neg (by omega)])
      have CK := Lib.hid (And.intro (K3.out.cell cOk id) (HYB.out bO hbO))
      have HOD := Lib.hid hod
      clear ho hod cOk hbO
      go_wp2_with fail
      go_loopw [11] (fun i wr => ∃ (j : Nat) (t : Int), j ≤ k ∧ i = .int .i64 j ∧ t = tot P.k ((ON.zip H).take j) o ∧ H1 w3 gy gy mh (ys.set k t) wr) (fun i _ => k - (intOf i).toNat)
      case atStart => exact ⟨0, 0, by omega, rfl, rfl, by rw [setn_same HYK.out]; exact HQ.out⟩
      case round =>
        obtain ⟨j, t, hj, rfl, ht, hq2⟩ := hrel
        have HQ2 := Lib.hid hq2
        have HT := Lib.hid ht
        have hq1 := HQ2.out.cell HQ1.out (by omega)
        have hp2 := HQ2.out.cell HP2.out (by omega)
        clear hq2
        by_cases hjk : j < k
        · obtain ⟨o2, ho2⟩ : ∃ o, ON[j]? = some o := ⟨_, List.getElem?_eq_getElem (by omega)⟩
          obtain ⟨x, hx⟩ : ∃ x, H[j]? = some x := ⟨_, List.getElem?_eq_getElem (by omega)⟩
          have hjk' : (j : Int) < k := by omega
          have hjm' : (j : Int) < mh := by omega
          have hxb := HHB.out x (List.mem_of_getElem? hx)
          have htb := tot_bd HOK.out.k o ((ON.zip H).take j) (fun y hy => HHB.out y.2 (List.of_mem_zip (List.mem_of_mem_take hy)).2)
          have hlj : ((ON.zip H).take j).length ≤ 8 := by rw [List.length_take]; omega
          have htb2 : 0 ≤ t ∧ t ≤ 160400000 := by rw [ht]; omega
          have hKK := HOK.out.k
          obtain ⟨bO', oO', e1, hbO', cOj⟩ := HOR.out.2 j _ (nat_at ho2)
          cases e1
          obtain ⟨bH, oH, rfl, hbH, cHj⟩ := HHR.out.2 j _ hx
          have cj := HQ2.out.cell (K3.out.cell cOj id) (HYB.out bO hbO')
          have ck := HQ2.out.cell CK.out.1 CK.out.2
          have ch2 := HQ2.out.cell (K3.out.cell cHj id) (HYB.out bH hbH)
          have HST := Lib.hid (tot_take (K := P.k) o ho2 hx)
          obtain ⟨yw, fw⟩ := rown_at HQ2.out.a (j := k) (x := t) (by rw [List.getElem?_set_self (by rw [HYS.out.1]; exact hkm)])
          clear ht hx ho2 htb hlj hbO' cOj hbH cHj
          by_cases he : o2 = o
          · subst he
            have HQ9 := Lib.hid (fun nn => H1.put (H1.drewN HQ2.out nn) k (t + x + P.k))
            simp only [List.set_set] at HQ9
            have hs1 : IntKind.i64.wrap (t + x) = t + x := by rw [IntKind.wrap_i64]; omega
            have hs2 : IntKind.i64.wrap (t + x + P.k) = t + x + P.k := by rw [IntKind.wrap_i64]; omega
            go_wp2_with fail
            go_quiet (fail)
            go_wp2_with fail
            go_region
            go_wp2_with fail
            go_roundw
            case rel => exact ⟨j + 1, t + x + P.k, by omega, by go_num, by rw [HST.out, HT.out]; simp, HQ9.out _⟩
            case measure => simp [intOf]; omega
          · have hne : ((o2 : Int) = (o : Int)) = False := eq_false (by omega)
            go_wp2_with fail
            go_quiet (fail)
            go_wp2_with fail
            go_roundw
            case rel => exact ⟨j + 1, t, by omega, by go_num, by rw [HT.out, HST.out, if_neg he], own_kp HQ2.out.a (Kp.drewN No _ _) (fun _ _ h => h), HQ2.out.k.tr (Kp.drewN _ _ _)⟩
            case measure => simp [intOf]; omega
        · obtain rfl : j = k := by omega
          go_wp2_with fail
          go_roundw
          case rel => exact ⟨j + 1, ys.set j t, by omega, by go_num, HYS.out.step hkm (by rw [HT.out, HOD.out]), HQ2.out⟩
          case measure => simp [intOf]; omega
    · obtain rfl : k = mh := by omega
      have HYE := Lib.hid (YL.all HYS.out hHm)
      rw [HYE.out] at HQ
      have HYR := Lib.hid (show RdI .i64 wr (some ⟨gy, 0, none⟩) k (ysR P.k ON H) from RdI.of_own HQ.out.a)
      have HK4 := Lib.hid (show Kp No w wr from (HK2.out.tr K3.out).trans HQ.out.k fun b hb e => by
        have e : b = gy := e
        have := HGY.out
        have := HK2.out.size
        omega)
      have KW : Kp (Kq.One gy) w2 wr := (K3.out.mono fun _ _ h => False.elim h).tr HQ.out.k
      have HXW := Lib.hid (show RdC wr A n l from HX.out.kp KW fun b o _ hb e => HYB.out b hb e)
      have HSW := Lib.hid (show RdI .i64 wr AS n (S.map Int.ofNat) from HSR.out.kp KW fun b o _ hb e => HYB.out b hb e)
      have HOW := Lib.hid (show RdI .i64 wr AO k (ON.map Int.ofNat) from HOR.out.kp KW fun b o _ hb e => HYB.out b hb e)
      have Q0W := Lib.hid (HQ.out.cell HQ0.out (by omega))
      have Q1W := Lib.hid (HQ.out.cell HQ1.out (by omega))
      have P2W := Lib.hid (HQ.out.cell HP2.out (by omega))
      have hyl : (ysR P.k ON H).length = k := by unfold ysR; simp; omega
      obtain ⟨ys2, hys2⟩ : ∃ y, ysR P.k ON H = y := ⟨_, rfl⟩
      rw [hys2] at HRV HYR hyl
      clear KW HQ0 HQ1 HP2 HQ HYS HYE HYB HX HSR HOR HGY HHR K3 HK2 hys2 hkm
      obtain ⟨wo, rfl⟩ : ∃ wo : World, wo = wr := ⟨_, rfl⟩
      go_wp2_with fail
      go_loopw [12, 13] (fun v i wr => ∃ q : Nat, q ≤ n ∧ i = .int .i64 q ∧ wr.ownsRow wo.heap.size 52 4 v q (((List.range q).map (spoR P.k l S ON ys2)).flatMap Spo.cells) ∧ Kp No wo wr) (fun _ i _ => n - (intOf i).toNat)
      case atStart => exact ⟨0, by omega, rfl, World.ownsRow_nil _ _ _ _, Kp.refl _ _⟩
      case round =>
        obtain ⟨i, hi, rfl, hown, hkp⟩ := hrel
        obtain ⟨av, cv, rfl, _⟩ := own_form hown
        have OW := Lib.hid hown
        have HKP := Lib.hid hkp
        clear hown
        by_cases hin : i < n
        · obtain ⟨s, hs⟩ : ∃ s, S[i]? = some s := ⟨_, List.getElem?_eq_getElem (by omega)⟩
          have hsm := HSM.out s (List.mem_of_getElem? hs)
          obtain ⟨p, hp⟩ : ∃ p, ON[s]? = some p := ⟨_, List.getElem?_eq_getElem (by omega)⟩
          obtain ⟨yv, hyv⟩ : ∃ y, ys2[s]? = some y := ⟨_, List.getElem?_eq_getElem (by omega)⟩
          have hin' : (i : Int) < n := by omega
          have hsm' : (s : Int) < k := by omega
          have qN0 := hkp.cell Q0W.out id
          have qN1 := hkp.cell Q1W.out id
          obtain ⟨bS, oS, rfl, bSl, cSi⟩ := (HSW.out.no hkp).2 i _ (nat_at hs)
          obtain ⟨bO, oO, rfl, _, cOs⟩ := (HOW.out.no hkp).2 s _ (nat_at hp)
          obtain ⟨b9, o9, e9, _, cYs⟩ := (HYR.out.no hkp).2 s yv hyv
          cases e9
          rw [Nat.zero_add] at cYs
          have HSP := Lib.hid (show spoR P.k l S ON ys2 i = ⟨(p : Nat), (s : Nat), tot P.k ((S.zip (l.map Ct.w)).take i) s, yv⟩ by
            unfold spoR
            rw [List.getD_eq_getElem?_getD (l := S), hs]
            simp only [Option.getD_some]
            rw [List.getD_eq_getElem?_getD, hp, List.getD_eq_getElem?_getD, hyv]
            rfl)
          have BS := Lib.hid (And.intro cSi bSl)
          clear hs hp hyv hkp
          go_wp2_with fail
          have FS : Stab (fun ix wz u => True) := fun ix u wz wz' kz h => trivial
          have FB : ∀ (g : Nat) (wz wz' : World), Kp (Kq.One g) wz wz' → wz.heap[g]? = some (.cells #[.int .i64 0, .int .i64 0, .int .i64 0, .int .i64 0] 52 (0, 0)) → ∀ (ix : Nat) (u : Value), ((fun ix wz u => True : Nat → World → Value → Prop) ix wz u) → ((fun ix wz u => True : Nat → World → Value → Prop) ix wz' u) := fun g wz wz' kz hz ix u h => trivial
          replace FS := Lib.hid FS
          replace FB := Lib.hid FB
          refine wp_region_each (fun ix uR => match ix with | 0 => uR = .pointer (some ⟨gN, 1, none⟩) | 1 => uR = .slice (some ⟨bO, oO, none⟩) k co | 2 => uR = .pointer (some ⟨gN, 0, none⟩) | 3 => uR = .slice (some ⟨bS, oS, none⟩) n cs | 4 => uR = .int .i64 (i : Nat) | 5 => uR = .pointer (some ⟨bS, oS + i, none⟩) | 6 => uR = .int .i64 (s : Nat) | 7 => uR = .pointer (some ⟨bO, oO + s, none⟩) | 8 => uR = .int .i64 (p : Nat) | 9 => uR = .pointer (some ⟨gN, 0, none⟩) | 10 => uR = .slice (some ⟨bS, oS, none⟩) n cs | 11 => uR = .int .i64 (i : Nat) | 12 => uR = .pointer (some ⟨bS, oS + i, none⟩) | 13 => uR = .int .i64 (s : Nat) | 14 => uR = .slice (some ⟨gy, 0, none⟩) k k | 15 => uR = .pointer (some ⟨gN, 0, none⟩) | 16 => uR = .slice (some ⟨bS, oS, none⟩) n cs | 17 => uR = .int .i64 (i : Nat) | 18 => uR = .pointer (some ⟨bS, oS + i, none⟩) | 19 => uR = .int .i64 (s : Nat) | 20 => uR = .pointer (some ⟨gy, s, none⟩) | 21 => uR = .int .i64 yv | 22 => uR = .agg #[.int .i64 (p : Nat), .int .i64 (s : Nat), .int .i64 0, .int .i64 yv] | _ => True) (HvA wr 52 #[.int .i64 0, .int .i64 0, .int .i64 0, .int .i64 0] 23 24 22 (fun ix wz u => True)) (by kernel_rfl) (by kernel_rfl) (by kernel_rfl) ?_ ?_ ?_
          · exact HvA.start _ _ _ _ _ _ _
          · refine ⟨?_, ?_, ?_, ?_, ?_, ?_, ?_, ?_, ?_, ?_, ?_, ?_, ?_, ?_, ?_, ?_, ?_, ?_, ?_, ?_, ?_, ?_, ?_, ?_, ?_, trivial⟩
            · intro r a w' hf hg hW hr hd K hK
              refine wpOp_of rfl rfl ?_
              have e0 : a.tmps.getD 5 undef = .pointer (some ⟨gN, 0, none⟩) := hf.evalFree (by kernel_rfl)
              go_simp
              exact hK _ _ rfl (hW.upd 0 _ hr (by decide) (by decide) trivial)
            · intro r a w' hf hg hW hr hd K hK
              refine wpOp_of rfl rfl ?_
              refine hf.depE hg hd 0 70 (by kernel_rfl) fun u0 e0 g0 h0 => ?_
              replace g0 : u0 = .pointer (some ⟨gN, 1, none⟩) := g0
              subst g0
              have z0 := hW.kp.cell qN1 id
              go_simp
              exact hK _ _ rfl (hW.upd 1 _ hr (by decide) (by decide) trivial)
            · intro r a w' hf hg hW hr hd K hK
              refine wpOp_of rfl rfl ?_
              have e0 : a.tmps.getD 5 undef = .pointer (some ⟨gN, 0, none⟩) := hf.evalFree (by kernel_rfl)
              go_simp
              exact hK _ _ rfl (hW.upd 2 _ hr (by decide) (by decide) trivial)
            · intro r a w' hf hg hW hr hd K hK
              refine wpOp_of rfl rfl ?_
              refine hf.depE hg hd 2 72 (by kernel_rfl) fun u0 e0 g0 h0 => ?_
              replace g0 : u0 = .pointer (some ⟨gN, 0, none⟩) := g0
              subst g0
              have z0 := hW.kp.cell qN0 id
              go_simp
              exact hK _ _ rfl (hW.upd 3 _ hr (by decide) (by decide) trivial)
            · intro r a w' hf hg hW hr hd K hK
              refine wpOp_of rfl rfl ?_
              have e0 : a.tmps.getD 13 undef = .int .i64 (i : Nat) := hf.evalFree (by kernel_rfl)
              go_simp
              exact hK _ _ rfl (hW.upd 4 _ hr (by decide) (by decide) trivial)
            · intro r a w' hf hg hW hr hd K hK
              refine wpOp_of rfl rfl ?_
              refine hf.depE hg hd 3 73 (by kernel_rfl) fun u0 e0 g0 h0 => ?_
              replace g0 : u0 = .slice (some ⟨bS, oS, none⟩) n cs := g0
              subst g0
              refine hf.depE hg hd 4 74 (by kernel_rfl) fun u1 e1 g1 h1 => ?_
              replace g1 : u1 = .int .i64 (i : Nat) := g1
              subst g1
              go_simp
              exact hK _ _ rfl (hW.upd 5 _ hr (by decide) (by decide) trivial)
            · intro r a w' hf hg hW hr hd K hK
              refine wpOp_of rfl rfl ?_
              refine hf.depE hg hd 5 75 (by kernel_rfl) fun u0 e0 g0 h0 => ?_
              replace g0 : u0 = .pointer (some ⟨bS, oS + i, none⟩) := g0
              subst g0
              have z0 := hW.kp.cell cSi id
              go_simp
              exact hK _ _ rfl (hW.upd 6 _ hr (by decide) (by decide) trivial)
            · intro r a w' hf hg hW hr hd K hK
              refine wpOp_of rfl rfl ?_
              refine hf.depE hg hd 1 71 (by kernel_rfl) fun u0 e0 g0 h0 => ?_
              replace g0 : u0 = .slice (some ⟨bO, oO, none⟩) k co := g0
              subst g0
              refine hf.depE hg hd 6 76 (by kernel_rfl) fun u1 e1 g1 h1 => ?_
              replace g1 : u1 = .int .i64 (s : Nat) := g1
              subst g1
              go_simp
              exact hK _ _ rfl (hW.upd 7 _ hr (by decide) (by decide) trivial)
            · intro r a w' hf hg hW hr hd K hK
              refine wpOp_of rfl rfl ?_
              refine hf.depE hg hd 7 77 (by kernel_rfl) fun u0 e0 g0 h0 => ?_
              replace g0 : u0 = .pointer (some ⟨bO, oO + s, none⟩) := g0
              subst g0
              have z0 := hW.kp.cell cOs id
              go_simp
              exact hK _ _ rfl (hW.upd 8 _ hr (by decide) (by decide) trivial)
            · intro r a w' hf hg hW hr hd K hK
              refine wpOp_of rfl rfl ?_
              have e0 : a.tmps.getD 5 undef = .pointer (some ⟨gN, 0, none⟩) := hf.evalFree (by kernel_rfl)
              go_simp
              exact hK _ _ rfl (hW.upd 9 _ hr (by decide) (by decide) trivial)
            · intro r a w' hf hg hW hr hd K hK
              refine wpOp_of rfl rfl ?_
              refine hf.depE hg hd 9 79 (by kernel_rfl) fun u0 e0 g0 h0 => ?_
              replace g0 : u0 = .pointer (some ⟨gN, 0, none⟩) := g0
              subst g0
              have z0 := hW.kp.cell qN0 id
              go_simp
              exact hK _ _ rfl (hW.upd 10 _ hr (by decide) (by decide) trivial)
            · intro r a w' hf hg hW hr hd K hK
              refine wpOp_of rfl rfl ?_
              have e0 : a.tmps.getD 13 undef = .int .i64 (i : Nat) := hf.evalFree (by kernel_rfl)
              go_simp
              exact hK _ _ rfl (hW.upd 11 _ hr (by decide) (by decide) trivial)
            · intro r a w' hf hg hW hr hd K hK
              refine wpOp_of rfl rfl ?_
              refine hf.depE hg hd 10 80 (by kernel_rfl) fun u0 e0 g0 h0 => ?_
              replace g0 : u0 = .slice (some ⟨bS, oS, none⟩) n cs := g0
              subst g0
              refine hf.depE hg hd 11 81 (by kernel_rfl) fun u1 e1 g1 h1 => ?_
              replace g1 : u1 = .int .i64 (i : Nat) := g1
              subst g1
              go_simp
              exact hK _ _ rfl (hW.upd 12 _ hr (by decide) (by decide) trivial)
            · intro r a w' hf hg hW hr hd K hK
              refine wpOp_of rfl rfl ?_
              refine hf.depE hg hd 12 82 (by kernel_rfl) fun u0 e0 g0 h0 => ?_
              replace g0 : u0 = .pointer (some ⟨bS, oS + i, none⟩) := g0
              subst g0
              have z0 := hW.kp.cell cSi id
              go_simp
              exact hK _ _ rfl (hW.upd 13 _ hr (by decide) (by decide) trivial)
            · intro r a w' hf hg hW hr hd K hK
              refine wpOp_of rfl rfl ?_
              have e0 : a.tmps.getD 9 undef = .slice (some ⟨gy, 0, none⟩) k k := hf.evalFree (by kernel_rfl)
              go_simp
              exact hK _ _ rfl (hW.upd 14 _ hr (by decide) (by decide) trivial)
            · intro r a w' hf hg hW hr hd K hK
              refine wpOp_of rfl rfl ?_
              have e0 : a.tmps.getD 5 undef = .pointer (some ⟨gN, 0, none⟩) := hf.evalFree (by kernel_rfl)
              go_simp
              exact hK _ _ rfl (hW.upd 15 _ hr (by decide) (by decide) trivial)
            · intro r a w' hf hg hW hr hd K hK
              refine wpOp_of rfl rfl ?_
              refine hf.depE hg hd 15 85 (by kernel_rfl) fun u0 e0 g0 h0 => ?_
              replace g0 : u0 = .pointer (some ⟨gN, 0, none⟩) := g0
              subst g0
              have z0 := hW.kp.cell qN0 id
              go_simp
              exact hK _ _ rfl (hW.upd 16 _ hr (by decide) (by decide) trivial)
            · intro r a w' hf hg hW hr hd K hK
              refine wpOp_of rfl rfl ?_
              have e0 : a.tmps.getD 13 undef = .int .i64 (i : Nat) := hf.evalFree (by kernel_rfl)
              go_simp
              exact hK _ _ rfl (hW.upd 17 _ hr (by decide) (by decide) trivial)
            · intro r a w' hf hg hW hr hd K hK
              refine wpOp_of rfl rfl ?_
              refine hf.depE hg hd 16 86 (by kernel_rfl) fun u0 e0 g0 h0 => ?_
              replace g0 : u0 = .slice (some ⟨bS, oS, none⟩) n cs := g0
              subst g0
              refine hf.depE hg hd 17 87 (by kernel_rfl) fun u1 e1 g1 h1 => ?_
              replace g1 : u1 = .int .i64 (i : Nat) := g1
              subst g1
              go_simp
              exact hK _ _ rfl (hW.upd 18 _ hr (by decide) (by decide) trivial)
            · intro r a w' hf hg hW hr hd K hK
              refine wpOp_of rfl rfl ?_
              refine hf.depE hg hd 18 88 (by kernel_rfl) fun u0 e0 g0 h0 => ?_
              replace g0 : u0 = .pointer (some ⟨bS, oS + i, none⟩) := g0
              subst g0
              have z0 := hW.kp.cell cSi id
              go_simp
              exact hK _ _ rfl (hW.upd 19 _ hr (by decide) (by decide) trivial)
            · intro r a w' hf hg hW hr hd K hK
              refine wpOp_of rfl rfl ?_
              refine hf.depE hg hd 14 84 (by kernel_rfl) fun u0 e0 g0 h0 => ?_
              replace g0 : u0 = .slice (some ⟨gy, 0, none⟩) k k := g0
              subst g0
              refine hf.depE hg hd 19 89 (by kernel_rfl) fun u1 e1 g1 h1 => ?_
              replace g1 : u1 = .int .i64 (s : Nat) := g1
              subst g1
              go_simp
              exact hK _ _ rfl (hW.upd 20 _ hr (by decide) (by decide) trivial)
            · intro r a w' hf hg hW hr hd K hK
              refine wpOp_of rfl rfl ?_
              refine hf.depE hg hd 20 90 (by kernel_rfl) fun u0 e0 g0 h0 => ?_
              replace g0 : u0 = .pointer (some ⟨gy, s, none⟩) := g0
              subst g0
              have z0 := hW.kp.cell cYs id
              go_simp
              exact hK _ _ rfl (hW.upd 21 _ hr (by decide) (by decide) trivial)
            · intro r a w' hf hg hW hr hd K hK
              refine wpOp_of rfl rfl ?_
              refine hf.depE hg hd 8 78 (by kernel_rfl) fun u0 e0 g0 h0 => ?_
              replace g0 : u0 = .int .i64 (p : Nat) := g0
              subst g0
              have e0' := get_of_getD e0
              refine hf.depE hg hd 13 83 (by kernel_rfl) fun u1 e1 g1 h1 => ?_
              replace g1 : u1 = .int .i64 (s : Nat) := g1
              subst g1
              have e1' := get_of_getD e1
              refine hf.depE hg hd 21 91 (by kernel_rfl) fun u2 e2 g2 h2 => ?_
              replace g2 : u2 = .int .i64 yv := g2
              subst g2
              have e2' := get_of_getD e2
              go_simp
              exact hK _ _ rfl (hW.upd 22 _ hr (by decide) (by decide) trivial)
            · intro r a w' hf hg hW hr hd K hK
              refine wpOp_of rfl rfl ?_
              go_simp
              exact hK _ _ trivial (hW.alloc FS.out hr (by decide) trivial)
            · intro r a w' hf hg hW hr hd K hK
              refine wpOp_of rfl rfl ?_
              refine hf.depE hg hd 23 14 (by kernel_rfl) fun u0 e0 g0 h0 => ?_
              refine hf.depE hg hd 22 92 (by kernel_rfl) fun u1 e1 g1 h1 => ?_
              replace g1 : u1 = .agg #[.int .i64 (p : Nat), .int .i64 (s : Nat), .int .i64 0, .int .i64 yv] := g1
              subst g1
              obtain ⟨g0, rfl, hg0, hh0⟩ := hW.b0 hr _ h0
              obtain ⟨x0, x1, x2, x3, y0, y1, y2, y3⟩ := cells4 hh0
              go_simp
              exact hK undef _ trivial (hW.store h0 hg0 (FB.out _ _ _ (kp_set4 _ _ (.int .i64 (p : Nat)) (.int .i64 (s : Nat)) (.int .i64 0) (.int .i64 yv)) hh0) (by decide) (by decide) h1 (kp_set4 _ _ (.int .i64 (p : Nat)) (.int .i64 (s : Nat)) (.int .i64 0) (.int .i64 yv)) (set4_at hh0 (.int .i64 (p : Nat)) (.int .i64 (s : Nat)) (.int .i64 0) (.int .i64 yv)) _ trivial)
          intro r' w5 hg hW hr'
          have hkN := hW.kp
          obtain ⟨q22, hq22⟩ : ∃ u, r' 22 = some u := Option.ne_none_iff_exists'.1 (hr' 22 (by decide))
          have hk22 := hg 22 q22 hq22
          replace hk22 : q22 = .agg #[.int .i64 (p : Nat), .int .i64 (s : Nat), .int .i64 0, .int .i64 yv] := hk22
          subst hk22
          obtain ⟨g0, cs, hg0, hl0, hcs, hB⟩ := hW.b1 (hr' 24 (by decide))
          simp only [List.length_cons, List.length_nil, Nat.reduceAdd, List.range_succ, List.range_zero, List.nil_append, List.cons_append, List.map_cons, List.map_nil, putAll, Act.put, List.setIfInBounds_toArray, List.set_cons_succ, List.set_cons_zero, hq22, hg0, Option.getD_some]
          clear hg hW hr' FS FB hg0
          rw [hq22] at hcs
          injection hcs with hcs
          injection hcs with hcs
          subst hcs
          have KN := Lib.hid hkN
          have HB := Lib.hid hB
          have hl0' : wr.heap.size ≤ g0 := hl0
          clear hkN hB hq22 qN0 qN1 cSi cOs cYs bSl
          go_wp2_with fail
          obtain ⟨wb, rfl⟩ : ∃ wb : World, wb = wr := ⟨_, rfl⟩
          go_loopw [15] (fun v wq => ∃ (j : Nat) (t : Int), j ≤ i ∧ v = .int .i64 j ∧ t = tot P.k ((S.zip (l.map Ct.w)).take j) s ∧ wq.heap[g0]? = some (.cells #[.int .i64 (p : Nat), .int .i64 (s : Nat), .int .i64 t, .int .i64 yv] 52 (0, 0)) ∧ Kp (Kq.One g0) w5 wq) (fun v _ => i - (intOf v).toNat)
          case atStart => exact ⟨0, 0, by omega, rfl, rfl, HB.out, Kp.refl _ _⟩
          case round =>
            obtain ⟨j, t, hj, rfl, ht, hbq, hkq⟩ := hrel
            have HT := Lib.hid ht
            have HBQ := Lib.hid hbq
            have HKQ := Lib.hid hkq
            clear hkq
            by_cases hji : j < i
            · obtain ⟨s2, hs2⟩ : ∃ s, S[j]? = some s := ⟨_, List.getElem?_eq_getElem (by omega)⟩
              obtain ⟨c, hc⟩ : ∃ c, l[j]? = some c := ⟨_, List.getElem?_eq_getElem (by omega)⟩
              have hji' : (j : Int) < i := by omega
              have hjn' : (j : Int) < n := by omega
              have hcb := HOK.out.c c (List.mem_of_getElem? hc)
              have hKK := HOK.out.k
              have htb := tot_bd hKK s ((S.zip (l.map Ct.w)).take j) (fun y hy => by
                obtain ⟨c, hc, e⟩ := List.mem_map.1 (List.of_mem_zip (List.mem_of_mem_take hy)).2
                have := HOK.out.c c hc
                omega)
              have hlj : ((S.zip (l.map Ct.w)).take j).length ≤ 8 := by rw [List.length_take]; omega
              have htb2 : 0 ≤ t ∧ t ≤ 160400000 := by rw [ht]; omega
              have CL := fun {b o : Nat} {v : Value} (h : wb.cell? ⟨b, o, none⟩ = some v) (hb : b < wb.heap.size) => HKQ.out.cell (KN.out.cell h id) (fun e => by have e : b = g0 := e; omega)
              obtain ⟨b3, o3, e3, hb3, cSj⟩ := (HSW.out.no HKP.out).2 j _ (nat_at hs2)
              cases e3
              obtain ⟨b4, o4, rfl, hb4, hcc⟩ := (HXW.out.no HKP.out).2 j c hc
              have d1 := CL cSj hb3
              have d2 := CL BS.out.1 BS.out.2
              have d3 := CL (hcc 0 _ rfl) hb4
              have hq0 := HKP.out.cell Q0W.out id
              have hp2 := HKP.out.cell P2W.out id
              have d4 := CL hq0 (World.block_lt_of_cell? _ _ hq0)
              have d5 := CL hp2 (World.block_lt_of_cell? _ _ hp2)
              simp only [Nat.add_zero] at d3
              obtain ⟨x0, x1, x2, x3, y0, y1, y2, y3⟩ := cells4 hbq
              have HST := Lib.hid (tot_take (K := P.k) (H := l.map Ct.w) s hs2 (by rw [List.getElem?_map, hc]; rfl))
              clear ht htb hlj hs2 hc CL cSj hcc hq0 hp2 hb3 hb4 hbq
              by_cases he : s2 = s
              · subst he
                have hs1 : IntKind.i64.wrap (t + c.w) = t + c.w := by rw [IntKind.wrap_i64]; omega
                have hs2 : IntKind.i64.wrap (t + c.w + P.k) = t + c.w + P.k := by rw [IntKind.wrap_i64]; omega
                have HB2 := Lib.hid (fun nn => set2_at (w := wr.drewN nn) (B := g0) (by have := (Kp.drewN No wr nn).heap HBQ.out id; exact this) (.int .i64 (t + c.w + P.k)))
                have HK2 := Lib.hid (fun nn => (HKQ.out.tr (Kp.drewN (Kq.One g0) wr nn)).tr (kp_setOne (wr.drewN nn) g0 2 (.int .i64 (t + c.w + P.k))))
                go_wp2_with fail
                go_quiet (fail)
                go_wp2_with fail
                go_region
                go_wp2_with fail
                go_roundw
                case rel => exact ⟨j + 1, t + c.w + P.k, by omega, by go_num, by rw [HST.out, HT.out]; simp, HB2.out _, HK2.out _⟩
                case measure => simp [intOf]; omega
              · have hne : ((s2 : Int) = (s : Int)) = False := eq_false (by omega)
                go_wp2_with fail
                go_quiet (fail)
                go_wp2_with fail
                go_roundw
                case rel => exact ⟨j + 1, t, by omega, by go_num, by rw [HT.out, HST.out, if_neg he], (Kp.drewN No _ _).heap HBQ.out id, HKQ.out.tr (Kp.drewN _ _ _)⟩
                case measure => simp [intOf]; omega
            · obtain rfl : j = i := by omega
              obtain ⟨x0, x1, x2, x3, y0, y1, y2, y3⟩ := cells4 hbq
              have HKZ := Lib.hid (show Kp (Kq.One g0) wb wr from (KN.out.mono fun _ _ h => False.elim h).tr HKQ.out)
              have OWQ := Lib.hid (own_kp OW.out HKZ.out (fun g hg e => by
                have e : g = g0 := e
                have := (own_ge OW.out hg).2
                omega))
              have HSP2 := Lib.hid (show spoR P.k l S ON ys2 j = ⟨(p : Nat), (s : Nat), t, yv⟩ by rw [HSP.out, HT.out])
              have KZ := Lib.hid (show Kp No wo wr from HKP.out.trans HKZ.out fun b hb e => by
                have e : b = g0 := e
                have := HKP.out.size
                omega)
              clear ht hbq y0 y1 y2 y3
              go_wp2_with (at_builtin; refine stop_in ?_)
              refine stop_out ?_
              refine wpL_append_any rfl _ _ 26 rfl wo.heap.size 52 i0 (.agg #[.int .i64 0, .int .i64 0, .int .i64 0, .int .i64 0]) 4 32 Try.underlying26 hi0 hz0 hz1 hz2 rfl (by decide) (.slice av j cv) j (((List.range j).map (spoR P.k l S ON ys2)).flatMap Spo.cells) rfl (OWQ.out.alloc _) (some ⟨wr.heap.size, 0, none⟩) 1 1 [.int .i64 (p : Nat), .int .i64 (s : Nat), .int .i64 t, .int .i64 yv] rfl rfl (fun h => by cases h) (fun ad had j u hu => by cases had; exact new_cells wr [.int .i64 (p : Nat), .int .i64 (s : Nat), .int .i64 t, .int .i64 yv] (by unfold maxLen; simp) j u hu) (fun u hu => by simp at hu; rcases hu with rfl | rfl | rfl | rfl <;> rfl) (by unfold maxLen; omega) (by omega) (by have := KZ.out.size; simp; omega) ?_
              intro v9 w9 hown9 hgrow9 _
              have K9 := Lib.hid (kp_app KZ.out OWQ.out (Nat.le_refl _) hgrow9)
              have OW9 := Lib.hid hown9
              clear hown9 hgrow9
              go_wp2_with fail
              go_roundw
              case rel => exact ⟨j + 1, by omega, by go_num, by rw [List.range_succ, List.map_append, List.map_singleton, flat_snoc, HSP2.out]; exact OW9.out, K9.out⟩
              case measure => simp [intOf]; omega
        · obtain rfl : i = n := by omega
          clear hkp
          go_wp2_with fail
          go_ret
          exact ⟨av, cv, rfl, by rw [HRV.out]; exact Rd.of_own spo_len (by decide) OW.out, HK4.out.tr HKP.out⟩
end Go.Proofs.Ytamjhpdgclbfgaa
