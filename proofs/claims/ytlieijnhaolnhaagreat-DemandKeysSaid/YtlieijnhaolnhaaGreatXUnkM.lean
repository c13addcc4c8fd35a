/- Chapter 13: maps from pipes to rows. · Chapter 13: open: the walk. · Chapter 13: open, where nothing is wrong: the walk. · Chapter 13: unknown: the walk. -/
import Derived.Test.YtlieijnhaolnhaaGreatXChkM
import Derived.Test.YtlieijnhaolnhaaGreatXLibMapWM
namespace Go.Proofs.YtlieijnhaolnhaaGreat
open Go.RowKit Go.Kq

theorem ep_inj {a b : Pp} (h : ep a = ep b) : a = b := by
  obtain ⟨a1, a2⟩ := a
  obtain ⟨b1, b2⟩ := b
  simpa [ep] using h
theorem pkey_equal (w : World) (x y : Pp) : (Op.equal 51 (ep x) (ep y)).run Tryz.prog w = .ok (decide (x = y)) w := by
  have hS : Tryz.prog.underlying 51 = some (.struct (Tryz.prog.fieldsOf 51)) := by kernel_rfl
  have hp : Tryz.prog.stoodInHeld 51 = false := by kernel_rfl
  have u3 := Tryz.underlying3
  obtain ⟨x1, x2⟩ := x
  obtain ⟨y1, y2⟩ := y
  simp only [Op.equal, Op.maxDepth, ep]
  rw [show (10000 : Nat) = 9999 + 1 from rfl, run_equalIn_agg w 9999 51 _ _ hS hp]
  simp only [Program.fieldsOf, Tryz.underlying51]
  go_simp
  by_cases h1 : x1 = y1 <;> by_cases h2 : x2 = y2 <;> simp [h1, h2]
theorem pcheck_int (n : Nat) (w : World) (em : Bool) (x : Int) : (Instr.checkKey em (n + 1) 3 (.int .i64 x)).run Tryz.prog w = .ok () w := by
  simp [Instr.checkKey, run_underlying Tryz.underlying3]
theorem pkey_check (w : World) (em : Bool) (k : Pp) : (Instr.checkKey em 10000 51 (ep k)).run Tryz.prog w = .ok () w := by
  obtain ⟨x1, x2⟩ := k
  have a3 := Tryz.isAgg3
  have z3 := Tryz.sizeOf3
  have c := fun x => pcheck_int 9998 w em x
  rw [show (10000 : Nat) = 9998 + 1 + 1 from rfl]
  unfold Instr.checkKey
  simp only [ep, Sem.run_bind, run_underlying Tryz.underlying51, Result.andThen_ok]
  go_simp
theorem pkeyOk : KeyOk Tryz.prog 51 ep := aggKey_ok Tryz.underlying51 ep_inj pkey_check pkey_equal (fun k => by simp [ep, Instr.sameBits])
def row0 : Rw := ⟨0, 0, 0, 0, 0⟩
theorem zeroR (w : World) : (zeroValue 53).run Tryz.prog w = .ok (rwV row0) w := Tryz.zeroValue53 w
/-- Rows by their pipes. -/
def bookL (l : List Rw) : List (Pp × Rw) := l.foldl (fun E x => ins x.pp x E) []
theorem bookL_snoc (l : List Rw) (x : Rw) : bookL (l ++ [x]) = ins x.pp x (bookL l) := by
  unfold bookL
  rw [List.foldl_append]
  rfl
theorem plt_trans {a b c : Pp} (h1 : pltB a b = true) (h2 : pltB b c = true) : pltB a c = true := by
  unfold pltB at *
  simp only [decide_eq_true_eq] at *
  omega
theorem plt_irr (a : Pp) : pltB a a = false := by
  unfold pltB
  simp
theorem ris_pair : ∀ l : List Pp, risB l = true → l.Pairwise fun a b => pltB a b = true
  | [], _ => List.Pairwise.nil
  | [x], _ => List.pairwise_singleton _ _
  | x :: y :: l, h => by
    simp only [risB, Bool.and_eq_true] at h
    have ih := ris_pair (y :: l) h.2
    refine List.pairwise_cons.2 ⟨fun z hz => ?_, ih⟩
    rcases List.mem_cons.1 hz with rfl | hz
    · exact h.1
    · exact plt_trans h.1 ((List.pairwise_cons.1 ih).1 z hz)
theorem get_book (p : Pp) : ∀ (l : List Rw) (E : List (Pp × Rw)), get1 (l.foldl (fun E x => ins x.pp x E) E) p = match l.reverse.find? (fun x => decide (x.pp = p)) with | some x => some x | none => get1 E p
  | [], E => by simp
  | x :: l, E => by
    rw [List.foldl_cons, get_book p l, List.reverse_cons, List.find?_append]
    cases h : l.reverse.find? (fun x => decide (x.pp = p)) with
    | some y => simp
    | none =>
      by_cases e : x.pp = p
      · simp [get1_ins, e]
      · simp [get1_ins, e]
/-- What a pipe's row is. -/
def rowOf (l : List Rw) (p : Pp) : Option Rw := l.find? fun x => decide (x.pp = p)
theorem rowOf_some {l : List Rw} {p : Pp} {x : Rw} (h : rowOf l p = some x) : x ∈ l ∧ x.pp = p := by
  unfold rowOf at h
  exact ⟨List.mem_of_find?_eq_some h, by simpa using List.find?_some h⟩
theorem rowOf_none {l : List Rw} {p : Pp} (h : rowOf l p = none) : ∀ x ∈ l, x.pp ≠ p := by
  unfold rowOf at h
  rw [List.find?_eq_none] at h
  intro x hx
  simpa using h x hx
theorem pp_inj {l : List Rw} (hr : risB (l.map Rw.pp) = true) {x y : Rw} (hx : x ∈ l) (hy : y ∈ l) (h : x.pp = y.pp) : x = y := by
  have hp := ris_pair _ hr
  rw [List.pairwise_map, List.pairwise_iff_getElem] at hp
  obtain ⟨i, hi, rfl⟩ := List.mem_iff_getElem.1 hx
  obtain ⟨j, hj, rfl⟩ := List.mem_iff_getElem.1 hy
  rcases Nat.lt_trichotomy i j with h1 | h1 | h1
  · have := hp i j hi hj h1
    rw [h, plt_irr] at this
    cases this
  · subst h1
    rfl
  · have := hp j i hj hi h1
    rw [h, plt_irr] at this
    cases this
theorem rowOf_mem {l : List Rw} (hr : risB (l.map Rw.pp) = true) {x : Rw} (hx : x ∈ l) : rowOf l x.pp = some x := by
  cases h : rowOf l x.pp with
  | none => exact absurd rfl (rowOf_none h x hx)
  | some y =>
    obtain ⟨h1, h2⟩ := rowOf_some h
    rw [pp_inj hr h1 hx h2]
theorem get_bookL {l : List Rw} (hr : risB (l.map Rw.pp) = true) (p : Pp) : get1 (bookL l) p = rowOf l p := by
  unfold bookL
  rw [get_book]
  cases h : l.reverse.find? (fun x => decide (x.pp = p)) with
  | some y =>
    have h1 := List.mem_of_find?_eq_some h
    have h2 := List.find?_some h
    simp only [decide_eq_true_eq] at h2
    subst h2
    exact (rowOf_mem hr (List.mem_reverse.1 h1)).symm
  | none =>
    have h1 : rowOf l p = none := by
      unfold rowOf
      rw [List.find?_eq_none] at h ⊢
      intro x hx
      exact h x (List.mem_reverse.2 hx)
    rw [h1]
    rfl
end Go.Proofs.YtlieijnhaolnhaaGreat

namespace Go.Proofs.YtlieijnhaolnhaaGreat
open Go.RowKit Go.Kq

theorem openP_any (p : Int) (w : World) : Calls Tryz.prog 82 #[i64V p] w fun e w' => e = .returned (.bool (!preB p)) ∧ Kp No w w' := by
  simp only [i64V]
  go_enter Tryz.func82, Tryz.ntmps82
  go_wp2_with (go_at_call 26; refine (press_any p _).mono ?_; rintro e w2 ⟨rfl, rfl⟩)
  go_ret
  exact ⟨ret_bool (by simp), Kp.refl _ _⟩
theorem openC_any (x : Rw) (B : Nat) (m : Nat) (w : World) (hB : w.cell? ⟨B, 0, none⟩ = some (.int .i64 (m : Nat))) : Calls Tryz.prog 83 #[rwV x, .pointer (some ⟨B, 0, none⟩)] w fun e w' => e = .returned (.bool (decide ((m : Int) ≤ x.c))) ∧ Kp No w w' := by
  have hlt := World.block_lt_of_cell? _ _ hB
  simp only at hlt
  simp only [rwV]
  go_enter Tryz.func83, Tryz.ntmps83
  go_wp2
  go_ret
  exact ⟨ret_bool (by simp), Kp.alloc _ _ _⟩
/-- The error of rows and pressures. -/
def opnE (l : List Rw) (ps : List Int) : Int := if chkE l = 0 then (if ps.length < 1 ∨ 16 < ps.length ∨ ps.any (fun p => !preB p) = true ∨ l.any (fun x => decide ((ps.length : Int) ≤ x.c)) = true then 2 else 0) else chkE l
def bk0 : Value := .agg #[.map none, .slice none 0 0]
theorem two_set0 {w : World} {B : Nat} {a b : Value} {t : TypeId} (h : w.heap[B]? = some (.cells #[a, b] t (0, 0))) : w.cell? ⟨B, 0, none⟩ = some a ∧ w.cell? ⟨B, 1, none⟩ = some b ∧ w.frozen? ⟨B, 0, none⟩ = false ∧ w.frozen? ⟨B, 1, none⟩ = false := two_cells h
set_option maxHeartbeats 4000000 in
set_option maxRecDepth 100000 in
theorem open_bad (A P : Option Addr) (n m ca cp : Nat) (l : List Rw) (ps : List Int) (w : World) (hx : Rd rwC 5 w A n l) (hp : RdI .i64 w P m ps) (hm : m ≤ 1000000) (he : opnE l ps ≠ 0) :
    Calls Tryz.prog 37 #[.slice A n ca, .slice P m cp] w fun e w' => e = .returned (.tuple #[bk0, .int .i64 (opnE l ps)]) ∧ Kp No w w' := by
  have hpl := hp.1
  have CK := Lib.hid (fun w0 hk => Check_any A n ca l w0 (hx.no (w' := w0) hk))
  unfold bk0
  by_cases h0 : chkE l = 0
  · rw [h0] at CK
    have hE : opnE l ps = 2 := by
      unfold opnE at he ⊢
      rw [if_pos h0] at he ⊢
      split
      · rfl
      · rename_i h
        rw [if_neg h] at he
        exact absurd rfl he
    have hcs : m < 1 ∨ 16 < m ∨ (1 ≤ m ∧ m ≤ 16 ∧ ps.any (fun p => !preB p) = true) ∨ (1 ≤ m ∧ m ≤ 16 ∧ ps.any (fun p => !preB p) = false ∧ l.any (fun x => decide ((m : Int) ≤ x.c)) = true) := by
      unfold opnE at he
      rw [if_pos h0, hpl] at he
      by_cases a1 : m < 1
      · exact .inl a1
      by_cases a2 : 16 < m
      · exact .inr (.inl a2)
      cases a3 : ps.any (fun p => !preB p)
      · cases a4 : l.any (fun x => decide ((m : Int) ≤ x.c))
        · rw [a3, a4, if_neg (by rintro (h | h | h | h) <;> first | omega | cases h)] at he
          exact absurd rfl he
        · exact .inr (.inr (.inr ⟨by omega, by omega, rfl, rfl⟩))
      · exact .inr (.inr (.inl ⟨by omega, by omega, rfl⟩))
    have hn2 : n ≤ 2000 := by
      have := hx.1
      unfold chkE at h0
      split at h0 <;> omega
    rw [hE]
    have CP := Lib.hid (fun w0 hk => contains_int P m cp ps (fun p => !preB p) w0 (hp.no (w' := w0) hk) (by omega) (fun v w' _ => openP_any v w'))
    have CC := Lib.hid (fun w0 B hk (hB : w0.cell? ⟨B, 0, none⟩ = some (.int .i64 (m : Nat))) => contains_rowo (cv := .pointer (some ⟨B, 0, none⟩)) A n ca l (fun x => decide ((m : Int) ≤ x.c)) w0 (hx.no (w' := w0) hk) (by omega) (fun v w' k' => openC_any v B m w' (k'.cell hB id)))
    clear hE he h0 hx hp hpl hn2
    rcases hcs with h1 | h1 | ⟨h1, h2, h3⟩ | ⟨h1, h2, h3, h4⟩
    · go_enter Tryz.func37, Tryz.ntmps37
      go_wp2_with fail
      refine (CK.out _ (Kp.alloc _ _ _)).mono ?_
      rintro e w1 ⟨rfl, k1⟩
      have R := k1.heap (at_new (n := w.heap.size) rfl) id
      obtain ⟨r0, r1, z0, z1⟩ := two_cells R
      have R := Lib.hid R
      have hz1 : w.heap.size < w1.heap.size := by have := k1.size; simp at this; omega
      have K1 := Lib.hid ((Kp.alloc No w _).tr k1)
      clear k1 CK CP CC
      go_wp2_with fail
      obtain ⟨q0, q1, _, _⟩ := two_cells ((Kp.alloc No _ (.cells #[.int .i64 (m : Nat)] 3)).heap (set2 (.map none) (.slice none 0 0) R.out) id)
      exact bodyPost_ret (v := .tuple #[.agg #[.map none, .slice none 0 0], .int .i64 2]) (by simp [results, Tryz.results37, go_sem, q0, q1]) rfl ⟨rfl, (kp_set2 K1.out (by omega)).tr (Kp.alloc _ _ _)⟩
    · go_enter Tryz.func37, Tryz.ntmps37
      go_wp2_with fail
      refine (CK.out _ (Kp.alloc _ _ _)).mono ?_
      rintro e w1 ⟨rfl, k1⟩
      have R := k1.heap (at_new (n := w.heap.size) rfl) id
      obtain ⟨r0, r1, z0, z1⟩ := two_cells R
      have R := Lib.hid R
      have hz1 : w.heap.size < w1.heap.size := by have := k1.size; simp at this; omega
      have K1 := Lib.hid ((Kp.alloc No w _).tr k1)
      clear k1 CK CP CC
      go_wp2_with fail
      obtain ⟨q0, q1, _, _⟩ := two_cells ((Kp.alloc No _ (.cells #[.int .i64 (m : Nat)] 3)).heap (set2 (.map none) (.slice none 0 0) R.out) id)
      exact bodyPost_ret (v := .tuple #[.agg #[.map none, .slice none 0 0], .int .i64 2]) (by simp [results, Tryz.results37, go_sem, q0, q1]) rfl ⟨rfl, (kp_set2 K1.out (by omega)).tr (Kp.alloc _ _ _)⟩
    · rw [h3] at CP
      clear h3
      go_enter Tryz.func37, Tryz.ntmps37
      go_wp2_with fail
      refine (CK.out _ (Kp.alloc _ _ _)).mono ?_
      rintro e w1 ⟨rfl, k1⟩
      have R := Lib.hid (k1.heap (at_new (n := w.heap.size) rfl) id)
      have hz1 : w.heap.size < w1.heap.size := by have := k1.size; simp at this; omega
      have K1 := Lib.hid ((Kp.alloc No w _).tr k1)
      clear k1 CK CC
      go_wp2_with fail
      refine (CP.out _ (K1.out.tr (Kp.alloc _ _ _))).mono ?_
      rintro e w2 ⟨rfl, k2⟩
      obtain ⟨r0, r1, z0, z1⟩ := two_cells (k2.heap ((Kp.alloc No _ _).heap R.out id) id)
      have K2 := Lib.hid (K1.out.tr ((Kp.alloc No _ _).tr k2))
      clear k2 CP R
      go_wp2_with fail
      exact bodyPost_ret (v := .tuple #[.agg #[.map none, .slice none 0 0], .int .i64 2]) (by simp [results, Tryz.results37, go_sem, r0, r1]) rfl ⟨rfl, kp_set2 K2.out (by omega)⟩
    · rw [h3] at CP
      rw [h4] at CC
      clear h3 h4
      go_enter Tryz.func37, Tryz.ntmps37
      go_wp2_with fail
      refine (CK.out _ (Kp.alloc _ _ _)).mono ?_
      rintro e w1 ⟨rfl, k1⟩
      have R := Lib.hid (k1.heap (at_new (n := w.heap.size) rfl) id)
      have hz1 : w.heap.size < w1.heap.size := by have := k1.size; simp at this; omega
      have K1 := Lib.hid ((Kp.alloc No w _).tr k1)
      clear k1 CK
      go_wp2_with fail
      refine (CP.out _ (K1.out.tr (Kp.alloc _ _ _))).mono ?_
      rintro e w2 ⟨rfl, k2⟩
      have hB : w2.cell? ⟨w1.heap.size, 0, none⟩ = some (.int .i64 (m : Nat)) := k2.cell (by go_simp) id
      have R2 := Lib.hid (k2.heap ((Kp.alloc No _ _).heap R.out id) id)
      have K2 := Lib.hid (K1.out.tr ((Kp.alloc No _ _).tr k2))
      have CB := Lib.hid (CC.out w2 w1.heap.size K2.out hB)
      clear k2 CP R CC
      go_wp2_with fail
      refine CB.out.mono ?_
      rintro e w3 ⟨rfl, k3⟩
      obtain ⟨r0, r1, z0, z1⟩ := two_cells (k3.heap R2.out id)
      have K3 := Lib.hid (K2.out.tr k3)
      clear k3 CB R2 hB
      go_wp2_with fail
      exact bodyPost_ret (v := .tuple #[.agg #[.map none, .slice none 0 0], .int .i64 2]) (by simp [results, Tryz.results37, go_sem, r0, r1]) rfl ⟨rfl, kp_set2 K3.out (by omega)⟩
  · have hE : opnE l ps = chkE l := by unfold opnE; rw [if_neg h0]
    have hb : (chkE l == 0) = false := by rw [beq_eq_false_iff_ne]; exact h0
    rw [hE]
    clear hE he h0
    generalize chkE l = z at *
    go_enter Tryz.func37, Tryz.ntmps37
    go_wp2_with fail
    refine (CK.out _ (Kp.alloc _ _ _)).mono ?_
    rintro e w1 ⟨rfl, k1⟩
    obtain ⟨r0, r1, z0, z1⟩ := two_cells (k1.heap (at_new (n := w.heap.size) rfl) id)
    have hz1 : w.heap.size < w1.heap.size := by have := k1.size; simp at this; omega
    have K1 := Lib.hid ((Kp.alloc No w _).tr k1)
    clear k1 CK
    go_wp2_with fail
    exact bodyPost_ret (v := .tuple #[.agg #[.map none, .slice none 0 0], .int .i64 z]) (by simp [results, Tryz.results37, go_sem, r0, r1]) rfl ⟨rfl, kp_set2 K1.out (by omega)⟩
end Go.Proofs.YtlieijnhaolnhaaGreat

namespace Go.Proofs.YtlieijnhaolnhaaGreat
open Go.RowKit Go.Kq

theorem opn_zero {l : List Rw} {ps : List Int} (h : opnE l ps = 0) : chkE l = 0 ∧ 1 ≤ ps.length ∧ ps.length ≤ 16 ∧ ps.any (fun p => !preB p) = false ∧ l.any (fun x => decide ((ps.length : Int) ≤ x.c)) = false := by
  unfold opnE at h
  by_cases h0 : chkE l = 0
  · rw [if_pos h0] at h
    by_cases h1 : ps.length < 1 ∨ 16 < ps.length ∨ ps.any (fun p => !preB p) = true ∨ l.any (fun x => decide ((ps.length : Int) ≤ x.c)) = true
    · rw [if_pos h1] at h
      omega
    · refine ⟨h0, ?_, ?_, ?_, ?_⟩
      · exact Nat.not_lt.1 fun h => h1 (.inl h)
      · exact Nat.not_lt.1 fun h => h1 (.inr (.inl h))
      · exact Bool.eq_false_iff.2 fun h => h1 (.inr (.inr (.inl h)))
      · exact Bool.eq_false_iff.2 fun h => h1 (.inr (.inr (.inr h)))
  · rw [if_neg h0] at h
    exact absurd h h0
theorem chk_zero {l : List Rw} (h : chkE l = 0) : l.length ≤ 2000 ∧ l.any rowB = false ∧ risB (l.map Rw.pp) = true := by
  unfold chkE at h
  by_cases h1 : 2000 < l.length
  · rw [if_pos h1] at h
    omega
  · rw [if_neg h1] at h
    cases h2 : l.any rowB
    · rw [h2] at h
      cases h3 : risB (l.map Rw.pp)
      · rw [h3] at h
        simp at h
      · exact ⟨by omega, rfl, rfl⟩
    · rw [h2, if_pos rfl] at h
      omega
set_option maxHeartbeats 4000000 in
set_option maxRecDepth 100000 in
theorem open_ok (A P : Option Addr) (n m ca cp : Nat) (l : List Rw) (ps : List Int) (w : World) (hx : Rd rwC 5 w A n l) (hp : RdI .i64 w P m ps) (he : opnE l ps = 0) :
    Calls Tryz.prog 37 #[.slice A n ca, .slice P m cp] w fun e w' => ∃ g, e = .returned (.tuple #[.agg #[.map (some g), .slice P m cp], .int .i64 0]) ∧ MapAt w' g ep rwV (bookL l) ∧ w.heap.size ≤ g ∧ Kp No w w' := by
  have hmm := @run_makeMap Tryz.prog
  have hpl := hp.1
  have hxl := hx.1
  obtain ⟨h0, h1, h2, h3, h4⟩ := opn_zero he
  obtain ⟨hn2, _, _⟩ := chk_zero h0
  rw [hpl] at h1 h2 h4
  rw [hxl] at hn2
  have CK := Lib.hid (fun w0 hk => Check_any A n ca l w0 (hx.no (w' := w0) hk))
  rw [h0] at CK
  have CP := Lib.hid (fun w0 hk => contains_int P m cp ps (fun p => !preB p) w0 (hp.no (w' := w0) hk) (by omega) (fun v w' _ => openP_any v w'))
  have CC := Lib.hid (fun w0 B hk (hB : w0.cell? ⟨B, 0, none⟩ = some (.int .i64 (m : Nat))) => contains_rowo (cv := .pointer (some ⟨B, 0, none⟩)) A n ca l (fun x => decide ((m : Int) ≤ x.c)) w0 (hx.no (w' := w0) hk) (by omega) (fun v w' k' => openC_any v B m w' (k'.cell hB id)))
  rw [h3] at CP
  rw [h4] at CC
  have HX := Lib.hid hx
  clear h0 h3 h4 he hp hpl hxl hx
  go_enter Tryz.func37, Tryz.ntmps37
  go_wp2_with fail
  refine (CK.out _ (Kp.alloc _ _ _)).mono ?_
  rintro e w1 ⟨rfl, k1⟩
  have R := Lib.hid (k1.heap (at_new (n := w.heap.size) rfl) id)
  have hz1 : w.heap.size < w1.heap.size := by have := k1.size; simp at this; omega
  have K1 := Lib.hid ((Kp.alloc No w _).tr k1)
  clear k1 CK
  go_wp2_with fail
  refine (CP.out _ (K1.out.tr (Kp.alloc _ _ _))).mono ?_
  rintro e w2 ⟨rfl, k2⟩
  have hB : w2.cell? ⟨w1.heap.size, 0, none⟩ = some (.int .i64 (m : Nat)) := k2.cell (by go_simp) id
  have R2 := Lib.hid (k2.heap ((Kp.alloc No _ _).heap R.out id) id)
  have K2 := Lib.hid (K1.out.tr ((Kp.alloc No _ _).tr k2))
  have CB := Lib.hid (CC.out w2 w1.heap.size K2.out hB)
  clear k2 CP R CC
  go_wp2_with fail
  refine CB.out.mono ?_
  rintro e w3 ⟨rfl, k3⟩
  have R3 := Lib.hid (k3.heap R2.out id)
  have hz3 : w.heap.size < w3.heap.size := (Array.getElem?_eq_some_iff.1 R3.out).1
  have K3 := Lib.hid (K2.out.tr k3)
  clear k3 CB R2 hB
  go_wp2_with fail
  go_loopw [40] (fun i wr => ∃ k : Nat, k ≤ n ∧ i = .int .i64 k ∧ MapAt wr w3.heap.size ep rwV (bookL (l.take k)) ∧ wr.heap[w3.heap.size + 1]? = some (.cells #[.map (some w3.heap.size), .slice P m cp] 68 (0, 0)) ∧ wr.heap[w.heap.size]? = some (.cells #[.map none, .slice none 0 0] 68 (0, 0)) ∧ Kp No w wr) (fun i _ => n - (intOf i).toNat)
  case atStart =>
    refine ⟨0, by omega, rfl, ?_, at_new (by simp), ?_, ?_⟩
    · exact (MapAt.made w3 ep rwV).alloc _
    · exact (Kp.alloc No _ _).heap ((Kp.alloc No _ _).heap R3.out id) id
    · exact K3.out.tr ((Kp.alloc No _ _).tr (Kp.alloc No _ _))
  case round =>
    obtain ⟨k, hk, rfl, hmap, hb, hr, hkp⟩ := hrel
    obtain ⟨b0, b1, _, _⟩ := two_cells hb
    by_cases hlt : k < n
    · obtain ⟨x, hxk⟩ : ∃ x, l[k]? = some x := ⟨_, List.getElem?_eq_getElem (by have := HX.out.1; omega)⟩
      obtain ⟨b, o, rfl, hbl, hc⟩ := HX.out.2 k x hxk
      have c0 := hkp.cell (hc 0 _ rfl) id
      have c1 := hkp.cell (hc 1 _ rfl) id
      have c2 := hkp.cell (hc 2 _ rfl) id
      have c3 := hkp.cell (hc 3 _ rfl) id
      have c4 := hkp.cell (hc 4 _ rfl) id
      simp only [Nat.add_zero] at c0
      have HSN := Lib.hid (show bookL (l.take (k + 1)) = ins x.pp x (bookL (l.take k)) by rw [List.take_add_one, hxk]; exact bookL_snoc _ _)
      have HM := Lib.hid hmap
      have HB := Lib.hid hb
      have HR := Lib.hid hr
      have HK := Lib.hid hkp
      have hzr : w3.heap.size + 1 < wr.heap.size := (Array.getElem?_eq_some_iff.1 hb).1
      clear hxk hc hmap hb hr hkp
      go_wp2_with (at_mapUpdate; refine stop_in ?_)
      refine stop_out ?_
      refine wpL_update _ rfl _ _ _ 66 rfl pkeyOk Tryz.underlying66 (HM.out.alloc _) x.pp x rfl rfl rfl ?_
      intro w5 hm5 hg5 hs5
      have hk5 : Kp (Kq.One w3.heap.size) (wr.alloc (.cells #[.int .i64 x.r, .int .i64 x.n, .int .i64 x.b, .int .i64 x.f, .int .i64 x.c] 53)) w5 := Kp.grown hg5 (fun k h _ => (Option.some.inj h).symm)
      have HM5 := Lib.hid hm5
      have HB5 := Lib.hid (hk5.heap ((Kp.alloc No _ _).heap HB.out id) (fun e => by unfold Kq.One at e; omega))
      have HR5 := Lib.hid (hk5.heap ((Kp.alloc No _ _).heap HR.out id) (fun e => by unfold Kq.One at e; omega))
      have HK5 := Lib.hid (HK.out.trans ((Kp.alloc (Kq.One w3.heap.size) wr _).tr hk5) (fun k hk h => by unfold Kq.One at h; omega))
      clear hm5 hg5 hs5 hk5 c0 c1 c2 c3 c4 b0 b1
      go_wp2_with fail
      go_roundw
      case rel => exact ⟨k + 1, by omega, by go_num, by rw [HSN.out]; exact HM5.out, HB5.out, HR5.out, HK5.out⟩
      case measure => simp [intOf]; omega
    · obtain rfl : k = n := by omega
      have hf : l.take k = l := List.take_of_length_le (by have := HX.out.1; omega)
      rw [hf] at hmap
      obtain ⟨r0, r1, z0, z1⟩ := two_cells hr
      have HM := Lib.hid hmap
      have HK := Lib.hid hkp
      clear hmap hkp hf hr hb
      go_wp2_with fail
      refine bodyPost_ret (v := .tuple #[.agg #[.map (some w3.heap.size), .slice P m cp], .int .i64 0]) (by simp [results, Tryz.results37, go_sem, r0, r1]) rfl ⟨_, rfl, ?_, by omega, kp_set2 HK.out (by omega)⟩
      exact HM.out.of_block (by have h1 : w.heap.size ≠ w3.heap.size := by omega
                                simp [World.setCell, Array.getElem?_modify, h1])
end Go.Proofs.YtlieijnhaolnhaaGreat

namespace Go.Proofs.YtlieijnhaolnhaaGreat
open Go.RowKit Go.Kq

set_option maxHeartbeats 2000000 in
theorem unknown_any (g m cp : Nat) (P : Option Addr) (E : List (Pp × Rw)) (p : Pp) (w : World) (hm : MapAt w g ep rwV E) :
    Calls Tryz.prog 40 #[.agg #[.map (some g), .slice P m cp], ep p] w fun e w' => e = .returned (.bool (!(get1 E p).isSome)) ∧ Kp No w w' := by
  obtain ⟨p1, p2⟩ := p
  have hm2 := (hm.alloc (Obj.cells #[.map (some g), .slice P m cp] 68)).alloc (Obj.cells #[.int .i64 p1, .int .i64 p2] 51)
  have hlk := hm2.run_lookup pkeyOk Tryz.underlying66 (zeroR _) (p1, p2) true
  clear hm hm2
  simp only [ep, if_true] at hlk ⊢
  generalize ((get1 E (p1, p2)).getD row0) = x at hlk
  generalize (get1 E (p1, p2)).isSome = b at *
  obtain ⟨x1, x2, x3, x4, x5⟩ := x
  simp only [rwV] at hlk
  go_enter Tryz.func40, Tryz.ntmps40
  go_wp2
  go_ret
  exact ⟨rfl, ((Kp.alloc No w _).tr (Kp.alloc No _ _)).tr (Kp.alloc No _ _)⟩
end Go.Proofs.YtlieijnhaolnhaaGreat
