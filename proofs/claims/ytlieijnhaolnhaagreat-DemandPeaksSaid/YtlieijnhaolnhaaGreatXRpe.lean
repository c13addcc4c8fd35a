/- Chapter 13: the reference's Peak: walks. Printed by gen_rpe.py. -/
import Derived.Test.YtlieijnhaolnhaaGreatXPkw
import Derived.Test.YtlieijnhaolnhaaGreatXNtwM
namespace Go.Proofs.YtlieijnhaolnhaaGreat
open Go.RowKit Go.Kq

theorem check03_any (x : Int × Int) (w : World) : Calls Tryz.prog 58 #[ivV x.1 x.2] w fun e w' => e = .returned (.int .i64 (ckE [x])) ∧ Kp No w w' := by
  have BD := Lib.hid (fun (g : Nat) (w0 : World) (hh : w0.heap[g]? = some (.cells #[.int .i64 x.1, .int .i64 x.2] 25 (0, 0))) => bad03_any [x] g 1 1 w0 rfl (by omega) (fun k y hy => by
    match k, hy with
    | 0, hy => simp at hy; subst hy; exact ⟨by rw [cell_of_row _ _ _ _ _ _ hh]; rfl, by rw [cell_of_row _ _ _ _ _ _ hh]; rfl⟩
    | k + 1, hy => simp at hy))
  generalize ckE [x] = E at *
  obtain ⟨x1, x2⟩ := x
  simp only [ivV] at BD ⊢
  obtain ⟨h1, h2, KA⟩ := two_newQ w (.cells #[.int .i64 x1, .int .i64 x2] 25) (.cells #[.int .i64 x1, .int .i64 x2] 25)
  replace h2 := Lib.hid h2
  replace KA := Lib.hid KA
  clear h1
  go_enter Tryz.func58, Tryz.ntmps58
  go_wp2_with fail
  refine (BD.out _ _ h2.out).mono ?_
  rintro _ wb ⟨rfl, kb⟩
  have KB := Lib.hid (KA.out.tr kb)
  clear kb
  go_wp2_with fail
  go_ret
  exact ⟨rfl, KB.out⟩
set_option maxHeartbeats 1000000 in
set_option maxRecDepth 100000 in
theorem before13_any (bA oA n ca a b : Nat) (K : List (Int × Int)) (w : World) (hK : Rd ivC 2 w (some ⟨bA, oA, none⟩) n K) (ha : a < n) (hb : b < n) :
    Calls Tryz.prog 59 #[.slice (some ⟨bA, oA, none⟩) n ca, .int .i64 (a : Nat), .int .i64 (b : Nat)] w fun e w' => e = .returned (.bool (bef K a b)) ∧ Kp No w w' := by
  have hl := hK.1
  obtain ⟨⟨x1, x2⟩, hx⟩ : ∃ x, K[a]? = some x := ⟨_, List.getElem?_eq_getElem (by omega)⟩
  obtain ⟨⟨y1, y2⟩, hy⟩ : ∃ x, K[b]? = some x := ⟨_, List.getElem?_eq_getElem (by omega)⟩
  obtain ⟨b1, o1, e1, _, c⟩ := hK.2 a _ hx
  obtain ⟨b2, o2, e2, _, d⟩ := hK.2 b _ hy
  cases e1
  cases e2
  have c0 := c 0 _ rfl
  have c1 := c 1 _ rfl
  have d0 := d 0 _ rfl
  have d1 := d 1 _ rfl
  simp only [Nat.add_zero] at c0 d0
  have hbf : bef K a b = decide (y2 < x2 ∨ (x2 = y2 ∧ (y1 < x1 ∨ (x1 = y1 ∧ a < b)))) := by
    unfold bef kHi kLo
    simp only [List.getD_eq_getElem?_getD, hx, hy, Option.getD_some]
  rw [hbf]
  obtain ⟨r, hr⟩ : ∃ r, decide (y2 < x2 ∨ (x2 = y2 ∧ (y1 < x1 ∨ (x1 = y1 ∧ a < b)))) = r := ⟨_, rfl⟩
  rw [hr]
  have HR := Lib.hid hr
  have ha0 : (0 : Int) ≤ (a : Int) := by omega
  have hb0 : (0 : Int) ≤ (b : Int) := by omega
  have haI : (a : Int) < (n : Int) := by omega
  have hbI : (b : Int) < (n : Int) := by omega
  clear hbf hr c d hx hy
  by_cases h1 : x2 = y2
  · by_cases h2 : x1 = y1
    · subst h1 h2
      have hrr : r = decide (a < b) := by rw [← HR.out]; simp
      clear HR
      subst hrr
      go_enter Tryz.func59, Tryz.ntmps59
      go_wp2_with fail
      go_quiet (fail)
      go_wp2_with fail
      go_quiet (fail)
      go_wp2_with fail
      go_ret
      exact ⟨ret_bool (by simp), by first | exact Kp.drewN _ _ _ | exact (Kp.drewN _ _ _).tr (Kp.drewN _ _ _) | exact ((Kp.drewN _ _ _).tr (Kp.drewN _ _ _)).tr (Kp.drewN _ _ _)⟩
    · subst h1
      have hrr : r = decide (y1 < x1) := by rw [← HR.out]; simp [h2]
      have hne : (x1 != y1) = true := bne_iff_ne.2 h2
      clear HR
      subst hrr
      go_enter Tryz.func59, Tryz.ntmps59
      go_wp2_with fail
      go_quiet (fail)
      go_wp2_with fail
      go_quiet (fail)
      go_wp2_with fail
      go_quiet (fail)
      go_wp2_with fail
      go_ret
      exact ⟨ret_bool (by simp), by first | exact Kp.drewN _ _ _ | exact (Kp.drewN _ _ _).tr (Kp.drewN _ _ _) | exact ((Kp.drewN _ _ _).tr (Kp.drewN _ _ _)).tr (Kp.drewN _ _ _)⟩
  · have hrr : r = decide (y2 < x2) := by rw [← HR.out]; simp [h1]
    have hne : (x2 != y2) = true := bne_iff_ne.2 h1
    clear HR
    subst hrr
    go_enter Tryz.func59, Tryz.ntmps59
    go_wp2_with fail
    go_quiet (fail)
    go_wp2_with fail
    go_quiet (fail)
    go_wp2_with fail
    go_ret
    exact ⟨ret_bool (by simp), by first | exact Kp.drewN _ _ _ | exact (Kp.drewN _ _ _).tr (Kp.drewN _ _ _) | exact ((Kp.drewN _ _ _).tr (Kp.drewN _ _ _)).tr (Kp.drewN _ _ _)⟩
theorem sumF_append : ∀ (l m : List (Int × Int)) (s : Int × Int), sumF (l ++ m) s = if (sumF l s).2.2 = 0 then sumF m ((sumF l s).1, (sumF l s).2.1) else sumF l s
  | [], m, s => by simp [sumF]
  | x :: l, m, s => by
    rw [List.cons_append]
    by_cases h : (addE s x).2.2 = 0
    · have e1 : ∀ l, sumF (x :: l) s = sumF l ((addE s x).1, (addE s x).2.1) := fun l => by simp only [sumF, if_pos h]
      rw [e1, e1]
      exact sumF_append l m _
    · have e1 : ∀ l, sumF (x :: l) s = (0, 0, (addE s x).2.2) := fun l => by simp only [sumF, if_neg h]
      rw [e1, e1, if_neg h]
/-- The keys that are taken, by definition. -/
def refL (K : List (Int × Int)) (m k : Nat) : List Nat := (List.range k).filter fun i => decide ((List.range K.length).countP (fun j => bef K j i) < m)
theorem refL_snoc (K : List (Int × Int)) (m k : Nat) : refL K m (k + 1) = if (List.range K.length).countP (fun j => bef K j k) < m then refL K m k ++ [k] else refL K m k := by
  unfold refL
  rw [List.range_succ, List.filter_append]
  by_cases h : (List.range K.length).countP (fun j => bef K j k) < m
  · rw [if_pos h]
    simp [h]
  · rw [if_neg h]
    simp [h]
theorem refL_split (K : List (Int × Int)) (m a b : Nat) (h : a ≤ b) : ∃ r, refL K m b = refL K m a ++ r := by
  obtain ⟨c, rfl⟩ : ∃ c, b = a + c := ⟨b - a, by omega⟩
  unfold refL
  rw [List.range_add, List.filter_append]
  exact ⟨_, rfl⟩
theorem asc_ext {L M : List Nat} (h1 : L.Pairwise (· < ·)) (h2 : M.Pairwise (· < ·)) (h : ∀ i, i ∈ L ↔ i ∈ M) : L = M := by
  have n1 : L.Nodup := h1.imp fun h => Nat.ne_of_lt h
  have n2 : M.Nodup := h2.imp fun h => Nat.ne_of_lt h
  have hp : L.Perm M := (List.perm_ext_iff_of_nodup n1 n2).2 h
  exact hp.eq_of_pairwise (fun a b _ _ h1 h2 => absurd h1 (Nat.lt_asymm h2)) h1 h2
theorem top_ref {K : List (Int × Int)} {m : Nat} {T : List Nat} (h : Top K m T) : T = refL K m K.length := by
  refine asc_ext h.asc ?_ fun i => ?_
  · unfold refL
    exact List.Pairwise.filter _ List.pairwise_lt_range
  · unfold refL
    rw [h.mem i, List.mem_filter, List.mem_range]
    simp
set_option maxHeartbeats 1000000 in
theorem rpeak_long (A : Option Addr) (n ca : Nat) (most : Int) (w : World) (hn : 128 < n) :
    Calls Tryz.prog 20 #[.slice A n ca, .int .i64 most] w fun e w' => e = .returned (.tuple #[ivV 0 0, .slice none 0 0, .int .i64 3]) ∧ Kp No w w' := by
  unfold ivV
  have h1 : (128 : Int) < (n : Int) := by omega
  go_enter Tryz.func20, Tryz.ntmps20
  go_wp2_with fail
  exact bodyPost_ret (v := .tuple #[.agg #[.int .i64 0, .int .i64 0], .slice none 0 0, .int .i64 3]) (by simp [results, Tryz.results20, go_sem]) rfl ⟨rfl, Kp.alloc No _ _⟩
set_option maxHeartbeats 1000000 in
theorem rpeak_most (A : Option Addr) (n ca : Nat) (most : Int) (w : World) (hn : n ≤ 128) (hm : most < 0 ∨ 128 < most) :
    Calls Tryz.prog 20 #[.slice A n ca, .int .i64 most] w fun e w' => e = .returned (.tuple #[ivV 0 0, .slice none 0 0, .int .i64 2]) ∧ Kp No w w' := by
  unfold ivV
  have h1 : (n : Int) ≤ 128 := by omega
  by_cases h2 : most < 0
  · clear hm
    go_enter Tryz.func20, Tryz.ntmps20
    go_wp2_with fail
    exact bodyPost_ret (v := .tuple #[.agg #[.int .i64 0, .int .i64 0], .slice none 0 0, .int .i64 2]) (by simp [results, Tryz.results20, go_sem]) rfl ⟨rfl, Kp.alloc No _ _⟩
  · have h3 : 128 < most := by omega
    clear hm
    go_enter Tryz.func20, Tryz.ntmps20
    go_wp2_with fail
    exact bodyPost_ret (v := .tuple #[.agg #[.int .i64 0, .int .i64 0], .slice none 0 0, .int .i64 2]) (by simp [results, Tryz.results20, go_sem]) rfl ⟨rfl, Kp.alloc No _ _⟩
theorem kyB_cases {x : Int × Int} (h : kyB x = false) : ckE [x] = 0 ∧ 0 ≤ x.1 := by
  unfold kyB at h
  simp at h
  exact ⟨h.1, by omega⟩
def RpkP (K : List (Int × Int)) (L : List Nat) (p : Int × Int × Int) (w : World) (e : Ending) (w' : World) : Prop := Kp No w w' ∧ ((K.any kyB = true ∧ e = .returned (.tuple #[ivV 0 0, .slice none 0 0, .int .i64 2])) ∨
  (K.any kyB = false ∧ ∃ v, e = .returned (.tuple #[ivV p.1 p.2.1, v, .int .i64 p.2.2]) ∧ (p.2.2 = 0 → w'.ownsRow w.heap.size 3 1 v L.length (L.map natV)) ∧ (p.2.2 ≠ 0 → v = .slice none 0 0)))
set_option maxHeartbeats 2000000 in
set_option maxRecDepth 100000 in
theorem rpeak_ok (A : Option Addr) (n ca m : Nat) (K : List (Int × Int)) (w : World) (hK : Rd ivC 2 w A n K) (hn : n ≤ 128) (hm : m ≤ 128) :
    Calls Tryz.prog 20 #[.slice A n ca, .int .i64 (m : Nat)] w (RpkP K (refL K m n) (pkV K (refL K m n)) w) := by
  have hKl := hK.1
  obtain ⟨i0, hi, hz0, hz1, hz2⟩ := info_parts infoI
  have HI := Lib.hid hi
  have HK := Lib.hid hK
  have CK := Lib.hid (fun (x : Int × Int) w0 => check03_any x w0)
  have n1 : (n : Int) ≤ 128 := by omega
  have m1 : (m : Int) ≤ 128 := by omega
  have m2 : (0 : Int) ≤ (m : Int) := by omega
  have KA := Lib.hid (Kp.alloc No w (.cells #[.int .i64 0, .int .i64 0] 25))
  have RB := Lib.hid (heap_alloc_new w (.cells #[.int .i64 0, .int .i64 0] 25))
  obtain ⟨⟨p1, p2, p3⟩, hP⟩ : ∃ x, pkV K (refL K m n) = x := ⟨_, rfl⟩
  rw [hP]
  have HP := Lib.hid hP
  clear hK hi hP
  go_enter Tryz.func20, Tryz.ntmps20
  go_wp2_with fail
  generalize w.alloc (.cells #[.int .i64 0, .int .i64 0] 25) = w1 at *
  go_loopw [7] (fun i wr => ∃ k : Nat, k ≤ n ∧ i = .int .i64 k ∧ (∀ x ∈ K.take k, kyB x = false) ∧ Kp No w1 wr) (fun i _ => n - (intOf i).toNat)
  case atStart => exact ⟨0, by omega, rfl, by simp, Kp.refl _ _⟩
  case round =>
    obtain ⟨k, hk, rfl, hall, hkp⟩ := hrel
    have KP := Lib.hid hkp
    by_cases hlt : k < n
    · obtain ⟨⟨x1, x2⟩, hx⟩ : ∃ x, K[k]? = some x := ⟨_, List.getElem?_eq_getElem (by omega)⟩
      obtain ⟨bA, oA, rfl, _, c⟩ := HK.out.2 k _ hx
      have c0 := (KA.out.tr hkp).cell (c 0 _ rfl) id
      have c1 := (KA.out.tr hkp).cell (c 1 _ rfl) id
      have C0 := Lib.hid (c 0 _ rfl)
      simp only [Nat.add_zero] at c0
      have CX := CK.out (x1, x2) wr
      simp only [ivV] at CX
      have HKY := Lib.hid (show kyB (x1, x2) = (decide (ckE [(x1, x2)] ≠ 0) || decide (x1 < 0)) from rfl)
      generalize ckE [(x1, x2)] = z at *
      replace CX := Lib.hid CX
      have HALL := Lib.hid hall
      have HX := Lib.hid hx
      have hRB := KP.out.heap RB.out id
      have BAD := Lib.hid (fun h : kyB (x1, x2) = true => show K.any kyB = true from List.any_eq_true.2 ⟨_, List.mem_of_getElem? hx, h⟩)
      clear hall hx c hkp
      by_cases hz : z = 0
      · subst hz
        by_cases hneg : x1 < 0
        · have hb := BAD.out (by rw [HKY.out]; simp [hneg])
          replace hb := Lib.hid hb
          go_wp2_with fail
          refine CX.out.mono ?_
          rintro _ w2 ⟨rfl, k2⟩
          have c0' := k2.cell c0 id
          have K2 := Lib.hid ((KA.out.tr KP.out).tr k2)
          have hr := k2.heap hRB id
          obtain ⟨r0, r1, z0, z1⟩ := two_cells hr
          clear k2
          replace hr := Lib.hid hr
          go_wp2_with fail
          have hs := setI_at hr.out (.int .i64 0) (.int .i64 0)
          obtain ⟨v0, v1, _, _⟩ := two_cells hs
          exact bodyPost_ret (v := .tuple #[.agg #[.int .i64 0, .int .i64 0], .slice none 0 0, .int .i64 2]) (by simp [results, Tryz.results20, go_sem, v0, v1]) rfl ⟨kp_set2 K2.out (Nat.le_refl _), .inl ⟨hb.out, rfl⟩⟩
        · have HN := Lib.hid (all_take (p := fun x : Int × Int => kyB x = false) HALL.out HX.out (by rw [HKY.out]; simp [hneg]))
          go_wp2_with fail
          refine CX.out.mono ?_
          rintro _ w2 ⟨rfl, k2⟩
          have c0' := k2.cell c0 id
          have K2 := Lib.hid (KP.out.tr k2)
          clear k2
          go_wp2_with fail
          go_round
          case rel => exact ⟨k + 1, by omega, by go_num, HN.out, K2.out⟩
          case measure => simp [intOf] <;> omega
      · have hb := BAD.out (by rw [HKY.out]; simp [hz])
        replace hb := Lib.hid hb
        have hz2 : (z != 0) = true := bne_iff_ne.2 hz
        clear hz
        go_wp2_with fail
        refine CX.out.mono ?_
        rintro _ w2 ⟨rfl, k2⟩
        have K2 := Lib.hid ((KA.out.tr KP.out).tr k2)
        have hr := k2.heap hRB id
        obtain ⟨r0, r1, z0, z1⟩ := two_cells hr
        clear k2
        replace hr := Lib.hid hr
        go_wp2_with fail
        have hs := setI_at hr.out (.int .i64 0) (.int .i64 0)
        obtain ⟨v0, v1, _, _⟩ := two_cells hs
        exact bodyPost_ret (v := .tuple #[.agg #[.int .i64 0, .int .i64 0], .slice none 0 0, .int .i64 2]) (by simp [results, Tryz.results20, go_sem, v0, v1]) rfl ⟨kp_set2 K2.out (Nat.le_refl _), .inl ⟨hb.out, rfl⟩⟩
    · obtain rfl : k = n := by omega
      have hno : K.any kyB = false := by
        rw [List.take_of_length_le (by omega)] at hall
        rw [List.any_eq_false]
        intro x hx
        rw [hall x hx]
        simp
      replace hno := Lib.hid hno
      have hRB := KP.out.heap RB.out id
      obtain ⟨wo, hwo⟩ : ∃ w2, w2 = wr.alloc (.cells #[.int .i64 0, .int .i64 0] 25) := ⟨_, rfl⟩
      have RB2 := Lib.hid ((Kp.alloc No wr (.cells #[.int .i64 0, .int .i64 0] 25)).heap hRB id)
      have SB2 := Lib.hid (heap_alloc_new wr (.cells #[.int .i64 0, .int .i64 0] 25))
      have K2 := Lib.hid ((KA.out.tr KP.out).tr (Kp.alloc No wr (.cells #[.int .i64 0, .int .i64 0] 25)))
      have hg8 := Lib.hid (show w.heap.size < wr.heap.size from (Array.getElem?_eq_some_iff.1 hRB).1)
      have hgo := Lib.hid (show wr.heap.size < wo.heap.size by rw [hwo]; simp)
      rw [← hwo] at RB2 SB2 K2
      replace hwo := Lib.hid hwo
      clear hall hkp hRB
      go_wp2_with fail
      rw [← hwo.out]
      generalize hge : wr.heap.size = g8 at *
      clear hge
      go_loopw [9, 10] (fun v s wr => ∃ (i : Nat) (s1 s2 : Int), i ≤ k ∧ s = .int .i64 i ∧ sumF ((refL K m i).map fun i => K.getD i (0, 0)) (0, 0) = (s1, s2, 0) ∧ wr.heap[g8]? = some (.cells #[.int .i64 s1, .int .i64 s2] 25 (0, 0)) ∧ wr.heap[w.heap.size]? = some (.cells #[.int .i64 0, .int .i64 0] 25 (0, 0)) ∧ wr.ownsRow wo.heap.size 3 1 v (refL K m i).length ((refL K m i).map natV) ∧ Kp No w wr ∧ wo.heap.size ≤ wr.heap.size) (fun _ s _ => k - (intOf s).toNat)
      case atStart => exact ⟨0, 0, 0, by omega, rfl, rfl, SB2.out, RB2.out, World.ownsRow_nil _ _ _ _, K2.out, Nat.le_refl _⟩
      case round =>
        obtain ⟨i, s1, s2, hik, rfl, hS, hB, hR, hO, hkp, hsz⟩ := hrel
        have HS := Lib.hid hS
        have HBX := Lib.hid hB
        have HRB := Lib.hid hR
        have HO := Lib.hid hO
        have KQ := Lib.hid hkp
        clear hS hB hR hO hkp
        by_cases hin : i < k
        · obtain ⟨⟨x1, x2⟩, hx⟩ : ∃ x, K[i]? = some x := ⟨_, List.getElem?_eq_getElem (by omega)⟩
          obtain ⟨bA, oA, rfl, hbA, c⟩ := HK.out.2 i _ hx
          have C0 := Lib.hid (c 0 _ rfl)
          have C1 := Lib.hid (c 1 _ rfl)
          have HX := Lib.hid hx
          have hi0 : (0 : Int) ≤ (i : Int) := by omega
          have hiI : (i : Int) < (k : Int) := by omega
          clear hx c
          obtain ⟨wp, rfl⟩ : ∃ wp : World, wp = wr := ⟨_, rfl⟩
          go_wp2_with fail
          go_loopw [11, 12] (fun c s wq => ∃ j : Nat, j ≤ k ∧ s = .int .i64 j ∧ c = .int .i64 (((List.range j).countP fun t => bef K t i) : Nat) ∧ Kp No wp wq) (fun _ s _ => k - (intOf s).toNat)
          case atStart => exact ⟨0, by omega, rfl, rfl, Kp.refl _ _⟩
          case round =>
            obtain ⟨j, hj, rfl, rfl, hkq⟩ := hrel
            have KJ := Lib.hid hkq
            by_cases hjk : j < k
            · have BF := Lib.hid (before13_any bA oA k ca j i K wr (HK.out.no (KQ.out.tr hkq)) hjk hin)
              have CS : (List.range (j + 1)).countP (fun t => bef K t i) = (List.range j).countP (fun t => bef K t i) + if bef K j i then 1 else 0 := by
                rw [List.range_succ, List.countP_append]
                simp [List.countP_cons]
              have CL : (List.range j).countP (fun t => bef K t i) ≤ j := by
                have := List.countP_le_length (p := fun t => bef K t i) (l := List.range j)
                simpa using this
              have CS := Lib.hid CS
              generalize (List.range j).countP (fun t => bef K t i) = cn at *
              generalize bef K j i = bb at *
              clear hkq
              go_wp2_with fail
              refine BF.out.mono ?_
              rintro _ w6 ⟨rfl, k6⟩
              have K6 := Lib.hid (KJ.out.tr k6)
              clear k6
              cases bb
              · go_wp2_with fail
                go_round
                case rel => exact ⟨j + 1, by omega, by go_num, by have := CS.out; simp at this; rw [this], K6.out⟩
                case measure => simp [intOf] <;> omega
              · go_wp2_with fail
                go_round
                case rel => exact ⟨j + 1, by omega, by go_num, by have := CS.out; simp at this; rw [this]; go_num, K6.out⟩
                case measure => simp [intOf] <;> omega
            · obtain rfl : j = k := by omega
              have hjj : ¬ ((j : Int) < (j : Int)) := by omega
              have RS := refL_snoc K m i
              rw [hKl] at RS
              generalize (List.range j).countP (fun t => bef K t i) = cn at *
              have HBX2 := Lib.hid (hkq.heap HBX.out id)
              have HRB2 := Lib.hid (hkq.heap HRB.out id)
              have HO2 := Lib.hid (own_kp HO.out hkq (fun _ _ h => h))
              have KQ2 := Lib.hid (KQ.out.tr hkq)
              have hsz2 : wo.heap.size ≤ wr.heap.size := Nat.le_trans hsz hkq.size
              have c0 := KQ2.out.cell C0.out id
              have c1 := KQ2.out.cell C1.out id
              simp only [Nat.add_zero] at c0
              clear hkq
              by_cases hc : cn < m
              · rw [if_pos hc] at RS
                have hd : decide (m ≤ cn) = false := decide_eq_false (by omega)
                have hc2 : ¬ m ≤ cn := by omega
                have RS := Lib.hid RS
                obtain ⟨av, cv, rfl, _, _, _⟩ := own_form HO2.out
                have hLl : (refL K m i).length ≤ 128 := by
                  have h1 : (refL K m i).length ≤ i := by
                    unfold refL
                    have := List.length_filter_le (fun i => decide ((List.range K.length).countP (fun j => bef K j i) < m)) (List.range i)
                    simpa using this
                  omega
                obtain ⟨sa, sb, _, _⟩ := two_cells HBX2.out
                go_wp2_with (at_builtin; refine stop_in ?_)
                refine stop_out ?_
                refine wpL_append_any rfl _ _ 44 rfl wo.heap.size 3 i0 (.int .i64 0) 1 8 Tryz.underlying44 HI.out hz0 hz1 hz2 rfl (by decide) (.slice av (refL K m i).length cv) (refL K m i).length ((refL K m i).map natV) rfl (own_kp HO2.out (Kp.alloc No wr _) (fun _ _ h => h)) (some ⟨wr.heap.size, 0, none⟩) 1 1 [.int .i64 (i : Nat)] rfl rfl (fun h => by cases h) (fun ad had t u hu => one_news ad (by cases had; rfl) t u hu) (fun u hu => by simp at hu; subst hu; rfl) (by unfold maxLen; omega) (by omega) (by simp; omega) ?_
                intro v' wx hown hgrow hat
                have hkx : Kp (fun g => wo.heap.size ≤ g) wr wx := (Kp.alloc _ _ _).tr (Kp.grown hgrow fun g hg _ => (own_ge HO2.out hg).1)
                have KX := Lib.hid (KQ2.out.trans hkx (T := fun g => wo.heap.size ≤ g) (S := No) (fun g hg h => absurd h (by have := K2.out.size; omega)))
                have HBX3 := Lib.hid (hkx.heap HBX2.out (by have := hgo.out; omega))
                have HRB3 := Lib.hid (hkx.heap HRB2.out (by have := hgo.out; have := hg8.out; omega))
                have hszx : wo.heap.size ≤ wx.heap.size := Nat.le_trans hsz2 hkx.size
                have OX := Lib.hid (show wx.ownsRow wo.heap.size 3 1 v' (refL K m (i + 1)).length ((refL K m (i + 1)).map natV) by
                  rw [RS.out, List.length_append, List.map_append]
                  exact hown)
                obtain ⟨⟨aa1, aa2, aa3⟩, ha⟩ : ∃ a, addE (s1, s2) (x1, x2) = a := ⟨_, rfl⟩
                have AD := fun w0 => add03_is (s1, s2) (x1, x2) w0
                rw [ha] at AD
                simp only [ieV, ivV] at AD
                replace AD := Lib.hid AD
                have SN : sumF ((refL K m (i + 1)).map fun i => K.getD i (0, 0)) (0, 0) = if aa3 = 0 then (aa1, aa2, 0) else (0, 0, aa3) := by
                  have hgi : K.getD i (0, 0) = (x1, x2) := by rw [List.getD_eq_getElem?_getD, HX.out]; rfl
                  rw [RS.out, List.map_append, sumF_append, HS.out]
                  simp only [if_true, List.map_cons, List.map_nil, sumF, hgi, ha]
                replace SN := Lib.hid SN
                clear c0 c1 sa sb hown hgrow hat hkx ha
                obtain ⟨sa, sb, _, _⟩ := two_cells HBX3.out
                have xa := KX.out.cell C0.out id
                have xb := KX.out.cell C1.out id
                simp only [Nat.add_zero] at xa
                go_wp2_with fail
                have HV : ∀ y ∈ [(⟨9, 10, 25, #[.int .i64 0, .int .i64 0], #[.int .i64 aa1, .int .i64 aa2], ptrV⟩ : Bx)], ∀ {p q : Nat}, y.v p = y.v q → p = q := by intro y hy; simp only [List.mem_cons, List.not_mem_nil, or_false] at hy; rcases hy with rfl <;> exact fun {p q} h => ptrV_inj h
                have HS0 : ∀ y ∈ [(⟨9, 10, 25, #[.int .i64 0, .int .i64 0], #[.int .i64 aa1, .int .i64 aa2], ptrV⟩ : Bx)], y.a = (⟨9, 10, 25, #[.int .i64 0, .int .i64 0], #[.int .i64 aa1, .int .i64 aa2], ptrV⟩ : Bx).a → y = (⟨9, 10, 25, #[.int .i64 0, .int .i64 0], #[.int .i64 aa1, .int .i64 aa2], ptrV⟩ : Bx) := by intro y hy; simp only [List.mem_cons, List.not_mem_nil, or_false] at hy; rcases hy with rfl <;> simp
                have HM0 : (⟨9, 10, 25, #[.int .i64 0, .int .i64 0], #[.int .i64 aa1, .int .i64 aa2], ptrV⟩ : Bx) ∈ [(⟨9, 10, 25, #[.int .i64 0, .int .i64 0], #[.int .i64 aa1, .int .i64 aa2], ptrV⟩ : Bx)] := by simp
                have HS0 := Lib.hid HS0
                have HM0 := Lib.hid HM0
                have HV := Lib.hid HV
                refine wp_region_each (fun ix u => match ix with | 0 => u = .agg #[.int .i64 s1, .int .i64 s2] | 1 => u = .slice (some ⟨bA, oA, none⟩) j ca | 2 => u = .int .i64 (i : Nat) | 3 => u = .pointer (some ⟨bA, oA + i * 2, none⟩) | 4 => u = .agg #[.int .i64 x1, .int .i64 x2] | 5 => u = .tuple #[.agg #[.int .i64 aa1, .int .i64 aa2], .int .i64 aa3] | 6 => u = .tuple #[.agg #[.int .i64 aa1, .int .i64 aa2], .int .i64 aa3] | 7 => u = .agg #[.int .i64 aa1, .int .i64 aa2] | 8 => u = .int .i64 aa3 | 11 => u = .int .i64 aa3 | _ => True) (BxW wx [(⟨9, 10, 25, #[.int .i64 0, .int .i64 0], #[.int .i64 aa1, .int .i64 aa2], ptrV⟩ : Bx)]) (by kernel_rfl) (by kernel_rfl) (by kernel_rfl) ?_ ?_ ?_
                · exact BxW.start _ _
                · refine ⟨?_, ?_, ?_, ?_, ?_, ?_, ?_, ?_, ?_, ?_, ?_, ?_, trivial⟩
                  · intro r a w' hf hg hW hr hd K hK
                    refine wpOp_of rfl rfl ?_
                    have y0 : a.tmps.getD 8 undef = .pointer (some ⟨g8, 0, none⟩) := hf.evalFree (by kernel_rfl)
                    have z0 := hW.kp.cell sa id
                    have z1 := hW.kp.cell sb id
                    go_simp
                    exact hK _ _ rfl (hW.upd (by kernel_rfl) _)
                  · intro r a w' hf hg hW hr hd K hK
                    refine wpOp_of rfl rfl ?_
                    have y0 : a.tmps.getD 0 undef = .slice (some ⟨bA, oA, none⟩) j ca := hf.evalFree (by kernel_rfl)
                    go_simp
                    exact hK _ _ rfl (hW.upd (by kernel_rfl) _)
                  · intro r a w' hf hg hW hr hd K hK
                    refine wpOp_of rfl rfl ?_
                    have y0 : a.tmps.getD 10 undef = .int .i64 (i : Nat) := hf.evalFree (by kernel_rfl)
                    go_simp
                    exact hK _ _ rfl (hW.upd (by kernel_rfl) _)
                  · intro r a w' hf hg hW hr hd K hK
                    refine wpOp_of rfl rfl ?_
                    refine hf.depE hg hd 1 75 (by kernel_rfl) fun u0 e0 g0 h0 => ?_
                    replace g0 : u0 = .slice (some ⟨bA, oA, none⟩) j ca := g0
                    subst g0
                    refine hf.depE hg hd 2 76 (by kernel_rfl) fun u1 e1 g1 h1 => ?_
                    replace g1 : u1 = .int .i64 (i : Nat) := g1
                    subst g1
                    go_simp
                    exact hK _ _ rfl (hW.upd (by kernel_rfl) _)
                  · intro r a w' hf hg hW hr hd K hK
                    refine wpOp_of rfl rfl ?_
                    refine hf.depE hg hd 3 77 (by kernel_rfl) fun u0 e0 g0 h0 => ?_
                    replace g0 : u0 = .pointer (some ⟨bA, oA + i * 2, none⟩) := g0
                    subst g0
                    have z0 := hW.kp.cell xa id
                    have z1 := hW.kp.cell xb id
                    go_simp
                    exact hK _ _ rfl (hW.upd (by kernel_rfl) _)
                  · intro r a w' hf hg hW hr hd K hK
                    refine wpOp_of rfl rfl ?_
                    refine hf.depE hg hd 0 74 (by kernel_rfl) fun u0 e0 g0 h0 => ?_
                    replace g0 : u0 = .agg #[.int .i64 s1, .int .i64 s2] := g0
                    subst g0
                    refine hf.depE hg hd 4 78 (by kernel_rfl) fun u1 e1 g1 h1 => ?_
                    replace g1 : u1 = .agg #[.int .i64 x1, .int .i64 x2] := g1
                    subst g1
                    go_simp
                    with_reducible refine (AD.out _).mono ?_
                    rintro e w'' ⟨rfl, k⟩
                    exact hK _ _ rfl ((hW.call k).upd (by kernel_rfl) _)
                  · intro r a w' hf hg hW hr hd K hK
                    refine wpOp_of rfl rfl ?_
                    refine hf.depE hg hd 5 79 (by kernel_rfl) fun u0 e0 g0 h0 => ?_
                    replace g0 : u0 = .tuple #[.agg #[.int .i64 aa1, .int .i64 aa2], .int .i64 aa3] := g0
                    subst g0
                    go_simp
                    exact hK _ _ rfl (hW.upd (by kernel_rfl) _)
                  · intro r a w' hf hg hW hr hd K hK
                    refine wpOp_of rfl rfl ?_
                    refine hf.depE hg hd 6 73 (by kernel_rfl) fun u0 e0 g0 h0 => ?_
                    replace g0 : u0 = .tuple #[.agg #[.int .i64 aa1, .int .i64 aa2], .int .i64 aa3] := g0
                    subst g0
                    go_simp
                    exact hK _ _ rfl (hW.upd (by kernel_rfl) _)
                  · intro r a w' hf hg hW hr hd K hK
                    refine wpOp_of rfl rfl ?_
                    refine hf.depE hg hd 6 73 (by kernel_rfl) fun u0 e0 g0 h0 => ?_
                    replace g0 : u0 = .tuple #[.agg #[.int .i64 aa1, .int .i64 aa2], .int .i64 aa3] := g0
                    subst g0
                    go_simp
                    exact hK _ _ rfl (hW.upd (by kernel_rfl) _)
                  · intro r a w' hf hg hW hr hd K hK
                    refine wpOp_of rfl rfl ?_
                    go_simp
                    exact hK _ _ trivial (hW.alloc (by kernel_rfl) HM0.out hr HV.out HS0.out)
                  · intro r a w' hf hg hW hr hd K hK
                    refine wpOp_of rfl rfl ?_
                    refine hf.depE hg hd 7 80 (by kernel_rfl) fun u0 e0 g0 h0 => ?_
                    replace g0 : u0 = .agg #[.int .i64 aa1, .int .i64 aa2] := g0
                    subst g0
                    refine hf.depE hg hd 9 13 (by kernel_rfl) fun u1 e1 _ h1 => ?_
                    obtain ⟨g, hu, hgl, _, hz⟩ := hW.empty HM0.out hr h1
                    subst hu
                    simp only [ptrV] at e1
                    obtain ⟨a0, a1, f0, f1⟩ := two_cells hz
                    go_simp
                    exact hK undef _ trivial (hW.store (by kernel_rfl) HM0.out h1 hgl HV.out HS0.out (kp_two _ _ _ _) (set2 (.int .i64 aa1) (.int .i64 aa2) hz) _)
                  · intro r a w' hf hg hW hr hd K hK
                    refine wpOp_of rfl rfl ?_
                    refine hf.depE hg hd 8 81 (by kernel_rfl) fun u0 e0 g0 h0 => ?_
                    replace g0 : u0 = .int .i64 aa3 := g0
                    subst g0
                    go_simp
                    exact hK _ _ rfl (hW.upd (by kernel_rfl) _)
                intro r' w3 hg hW hr'
                obtain ⟨g0, hg0, hl0, hm0, hb0⟩ := hW.filled HM0.out (hr' 10 (by decide))
                have hkN := hW.kp
                obtain ⟨q11, hq11⟩ : ∃ u, r' 11 = some u := Option.ne_none_iff_exists'.1 (hr' 11 (by decide))
                have hk11 := hg 11 q11 hq11
                replace hk11 : q11 = .int .i64 aa3 := hk11
                subst hk11
                replace hg0 : r' 9 = some (.pointer (some ⟨g0, 0, none⟩)) := hg0
                simp only [List.length_cons, List.length_nil, Nat.reduceAdd, List.range_succ, List.range_zero, List.nil_append, List.cons_append, List.map_cons, List.map_nil, putAll, Act.put, List.setIfInBounds_toArray, List.set_cons_succ, List.set_cons_zero, hg0, hq11, Option.getD_some]
                clear hg hW hr' hg0 HM0 HS0 HV hq11
                obtain ⟨e0, e1, _, _⟩ := two_cells hb0
                have HB4 := Lib.hid (hkN.heap HBX3.out id)
                have HR4 := Lib.hid (hkN.heap HRB3.out id)
                have OX4 := Lib.hid (own_kp OX.out hkN (fun _ _ h => h))
                have K4 := Lib.hid (KX.out.tr hkN)
                have hsz4 : wo.heap.size ≤ w3.heap.size := Nat.le_trans hszx hkN.size
                clear hl0 hm0 hb0 hkN sa sb xa xb
                by_cases hz : aa3 = 0
                · subst hz
                  have SN2 := SN.out
                  rw [if_pos rfl] at SN2
                  replace SN2 := Lib.hid SN2
                  obtain ⟨q0, q1, f0, f1⟩ := two_cells HB4.out
                  clear SN
                  go_wp2_with fail
                  have hs := setI_at HB4.out (.int .i64 aa1) (.int .i64 aa2)
                  have kS : Kp (Kq.One g8) w3 ((w3.setCell ⟨g8, 0, none⟩ (.int .i64 aa1)).setCell ⟨g8, 1, none⟩ (.int .i64 aa2)) := (Kp.setCell (Kq.One g8) w3 ⟨g8, 0, none⟩ _ (fun _ => rfl)).tr (Kp.setCell (Kq.One g8) _ ⟨g8, 1, none⟩ _ (fun _ => rfl))
                  have HR5 := Lib.hid (kS.heap HR4.out (fun e => by have := hg8.out; unfold Kq.One at e; omega))
                  have OX5 := Lib.hid (own_kp OX4.out kS (fun g hg e => by have := (own_ge OX4.out hg).1; have := hgo.out; unfold Kq.One at e; omega))
                  have K5 := Lib.hid (K4.out.trans kS (T := Kq.One g8) (S := No) (fun g hg e => by have := hg8.out; unfold Kq.One at e; omega))
                  have hsz5 : wo.heap.size ≤ ((w3.setCell ⟨g8, 0, none⟩ (.int .i64 aa1)).setCell ⟨g8, 1, none⟩ (.int .i64 aa2)).heap.size := Nat.le_trans hsz4 kS.size
                  replace hs := Lib.hid hs
                  clear q0 q1 f0 f1 kS e0 e1
                  go_round
                  case rel => exact ⟨i + 1, aa1, aa2, by omega, by go_num, SN2.out, hs.out, HR5.out, OX5.out, K5.out, hsz5⟩
                  case measure => simp [intOf] <;> omega
                · have SN2 := SN.out
                  rw [if_neg hz] at SN2
                  have hpv : pkV K (refL K m j) = (0, 0, aa3) := by
                    obtain ⟨r, hr⟩ := refL_split K m (i + 1) j (by omega)
                    unfold pkV
                    rw [hr, List.map_append, sumF_append, SN2]
                    simp only
                    rw [if_neg hz]
                  have hp0 := HP.out
                  rw [hpv] at hp0
                  injection hp0 with e1' e2'
                  injection e2' with e2' e3'
                  subst e1' e2' e3'
                  have hz2 : (aa3 != 0) = true := bne_iff_ne.2 hz
                  have hz3 := Lib.hid hz
                  obtain ⟨q0, q1, f0, f1⟩ := two_cells HR4.out
                  clear SN SN2 hpv hz e0 e1
                  go_wp2_with fail
                  have hs := setI_at HR4.out (.int .i64 0) (.int .i64 0)
                  obtain ⟨v0, v1, _, _⟩ := two_cells hs
                  exact bodyPost_ret (v := .tuple #[.agg #[.int .i64 0, .int .i64 0], .slice none 0 0, .int .i64 aa3]) (by simp [results, Tryz.results20, go_sem, v0, v1]) rfl ⟨kp_set2 K4.out (Nat.le_refl _), .inr ⟨hno.out, _, rfl, fun h => absurd h hz3.out, fun _ => rfl⟩⟩
              · rw [if_neg hc] at RS
                have hd : decide (m ≤ cn) = true := decide_eq_true (by omega)
                have hc2 : m ≤ cn := by omega
                have RS := Lib.hid RS
                clear c0 c1
                go_wp2_with fail
                go_round
                case rel => exact ⟨i + 1, s1, s2, by omega, by go_num, by rw [RS.out]; exact HS.out, HBX2.out, HRB2.out, by rw [RS.out]; exact HO2.out, KQ2.out, hsz2⟩
                case measure => simp [intOf] <;> omega
        · obtain rfl : i = k := by omega
          have hii : ¬ ((i : Int) < (i : Int)) := by omega
          have hp0 := HP.out
          unfold pkV at hp0
          rw [HS.out] at hp0
          injection hp0 with e1' e2'
          injection e2' with e2' e3'
          subst e1' e2' e3'
          obtain ⟨av, cv, rfl, _, _, _⟩ := own_form HO.out
          obtain ⟨sa, sb, _, _⟩ := two_cells HBX.out
          obtain ⟨q0, q1, f0, f1⟩ := two_cells HRB.out
          go_wp2_with fail
          have hs := setI_at HRB.out (.int .i64 s1) (.int .i64 s2)
          obtain ⟨v0, v1, _, _⟩ := two_cells hs
          have kS : Kp (Kq.One w.heap.size) wr ((wr.setCell ⟨w.heap.size, 0, none⟩ (.int .i64 s1)).setCell ⟨w.heap.size, 1, none⟩ (.int .i64 s2)) := (Kp.setCell (Kq.One w.heap.size) wr ⟨w.heap.size, 0, none⟩ _ (fun _ => rfl)).tr (Kp.setCell (Kq.One w.heap.size) _ ⟨w.heap.size, 1, none⟩ _ (fun _ => rfl))
          have OF := own_mono (base' := w.heap.size) (own_kp HO.out kS (fun g hg e => by have := (own_ge HO.out hg).1; have := hgo.out; have := hg8.out; unfold Kq.One at e; omega)) K2.out.size
          exact bodyPost_ret (v := .tuple #[.agg #[.int .i64 s1, .int .i64 s2], .slice av (refL K m i).length cv, .int .i64 0]) (by simp [results, Tryz.results20, go_sem, v0, v1]) rfl ⟨kp_set2 KQ.out (Nat.le_refl _), .inr ⟨hno.out, _, rfl, fun _ => OF, fun h => absurd rfl h⟩⟩
end Go.Proofs.YtlieijnhaolnhaaGreat
