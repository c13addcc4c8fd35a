/- Chapter 13: open: the walk. -/
import Derived.Test.YtlieijnhaolnhaaBok
import Derived.Test.YtlieijnhaolnhaaLibMapW
namespace Go.Proofs.Ytlieijnhaolnhaa
open Go.RowKit Go.Kq

theorem openP_any (p : Int) (w : World) : Calls Try.prog 60 #[i64V p] w fun e w' => e = .returned (.bool (!preB p)) ∧ Kp No w w' := by
  simp only [i64V]
  go_enter Try.func60, Try.ntmps60
  go_wp2_with (go_at_call 16; refine (press_any p _).mono ?_; rintro e w2 ⟨rfl, rfl⟩)
  go_ret
  exact ⟨ret_bool (by simp), Kp.refl _ _⟩
theorem openC_any (x : Rw) (B : Nat) (m : Nat) (w : World) (hB : w.cell? ⟨B, 0, none⟩ = some (.int .i64 (m : Nat))) : Calls Try.prog 62 #[rwV x, .pointer (some ⟨B, 0, none⟩)] w fun e w' => e = .returned (.bool (decide ((m : Int) ≤ x.c))) ∧ Kp No w w' := by
  have hlt := World.block_lt_of_cell? _ _ hB
  simp only at hlt
  simp only [rwV]
  go_enter Try.func62, Try.ntmps62
  go_wp2
  go_ret
  exact ⟨ret_bool (by simp), Kp.alloc _ _ _⟩
/-- The error of rows and pressures. -/
def opnE (l : List Rw) (ps : List Int) : Int := if chkE l = 0 then (if ps.length < 1 ∨ 16 < ps.length ∨ ps.any (fun p => !preB p) = true ∨ l.any (fun x => decide ((ps.length : Int) ≤ x.c)) = true then 2 else 0) else chkE l
def bk0 : Value := .agg #[.map none, .slice none 0 0]
theorem two_set0 {w : World} {B : Nat} {a b : Value} {t : TypeId} (h : w.heap[B]? = some (.cells #[a, b] t (0, 0))) : w.cell? ⟨B, 0, none⟩ = some a ∧ w.cell? ⟨B, 1, none⟩ = some b ∧ w.frozen? ⟨B, 0, none⟩ = false ∧ w.frozen? ⟨B, 1, none⟩ = false := two_cells h
set_option maxHeartbeats 4000000 in
set_option maxRecDepth 100000 in
theorem open_bad (A P : Option Addr) (n m ca cp : Nat) (l : List Rw) (ps : List Int) (w : World) (hx : Rd rwC 5 w A n l) (hp : RdI .i64 w P m ps) (hm : m ≤ 1000000) (he : opnE l ps ≠ 0) :
    Calls Try.prog 38 #[.slice A n ca, .slice P m cp] w fun e w' => e = .returned (.tuple #[bk0, .int .i64 (opnE l ps)]) ∧ Kp No w w' := by
  have hpl := hp.1
  have CK := Lib.hid (fun w0 hk => Check_any A n ca l w0 (hx.no (w' := w0) hk))
  unfold bk0
  by_cases h0 : chkE l = 0
  · rw [h0] at CK
    have hE : opnE l ps = 2 := by
      unfold opnE at he ⊢
      rw [if_pos h0] at he ⊢
      split
      · rfl
      · rename_i h
        rw [if_neg h] at he
        exact absurd rfl he
    have hcs : m < 1 ∨ 16 < m ∨ (1 ≤ m ∧ m ≤ 16 ∧ ps.any (fun p => !preB p) = true) ∨ (1 ≤ m ∧ m ≤ 16 ∧ ps.any (fun p => !preB p) = false ∧ l.any (fun x => decide ((m : Int) ≤ x.c)) = true) := by
      unfold opnE at he
      rw [if_pos h0, hpl] at he
      by_cases a1 : m < 1
      · exact .inl a1
      by_cases a2 : 16 < m
      · exact .inr (.inl a2)
      cases a3 : ps.any (fun p => !preB p)
      · cases a4 : l.any (fun x => decide ((m : Int) ≤ x.c))
        · rw [a3, a4, if_neg (by rintro (h | h | h | h) <;> first | omega | cases h)] at he
          exact absurd rfl he
        · exact .inr (.inr (.inr ⟨by omega, by omega, rfl, rfl⟩))
      · exact .inr (.inr (.inl ⟨by omega, by omega, rfl⟩))
    have hn2 : n ≤ 2000 := by
      have := hx.1
      unfold chkE at h0
      split at h0 <;> omega
    rw [hE]
    have CP := Lib.hid (fun w0 hk => contains_int P m cp ps (fun p => !preB p) w0 (hp.no (w' := w0) hk) (by omega) (fun v w' _ => openP_any v w'))
    have CC := Lib.hid (fun w0 B hk (hB : w0.cell? ⟨B, 0, none⟩ = some (.int .i64 (m : Nat))) => contains_rowo (cv := .pointer (some ⟨B, 0, none⟩)) A n ca l (fun x => decide ((m : Int) ≤ x.c)) w0 (hx.no (w' := w0) hk) (by omega) (fun v w' k' => openC_any v B m w' (k'.cell hB id)))
    clear hE he h0 hx hp hpl hn2
    rcases hcs with h1 | h1 | ⟨h1, h2, h3⟩ | ⟨h1, h2, h3, h4⟩
    · go_enter Try.func38, Try.ntmps38
      go_wp2_with fail
      refine (CK.out _ (Kp.alloc _ _ _)).mono ?_
      rintro e w1 ⟨rfl, k1⟩
      have R := k1.heap (at_new (n := w.heap.size) rfl) id
      obtain ⟨r0, r1, z0, z1⟩ := two_cells R
      have R := Lib.hid R
      have hz1 : w.heap.size < w1.heap.size := by have := k1.size; simp at this; omega
      have K1 := Lib.hid ((Kp.alloc No w _).tr k1)
      clear k1 CK CP CC
      go_wp2_with fail
      obtain ⟨q0, q1, _, _⟩ := two_cells ((Kp.alloc No _ (.cells #[.int .i64 (m : Nat)] 3)).heap (set2 (.map none) (.slice none 0 0) R.out) id)
      exact bodyPost_ret (v := .tuple #[.agg #[.map none, .slice none 0 0], .int .i64 2]) (by simp [results, Try.results38, go_sem, q0, q1]) rfl ⟨rfl, (kp_set2 K1.out (by omega)).tr (Kp.alloc _ _ _)⟩
    · go_enter Try.func38, Try.ntmps38
      go_wp2_with fail
      refine (CK.out _ (Kp.alloc _ _ _)).mono ?_
      rintro e w1 ⟨rfl, k1⟩
      have R := k1.heap (at_new (n := w.heap.size) rfl) id
      obtain ⟨r0, r1, z0, z1⟩ := two_cells R
      have R := Lib.hid R
      have hz1 : w.heap.size < w1.heap.size := by have := k1.size; simp at this; omega
      have K1 := Lib.hid ((Kp.alloc No w _).tr k1)
      clear k1 CK CP CC
      go_wp2_with fail
      obtain ⟨q0, q1, _, _⟩ := two_cells ((Kp.alloc No _ (.cells #[.int .i64 (m : Nat)] 3)).heap (set2 (.map none) (.slice none 0 0) R.out) id)
      exact bodyPost_ret (v := .tuple #[.agg #[.map none, .slice none 0 0], .int .i64 2]) (by simp [results, Try.results38, go_sem, q0, q1]) rfl ⟨rfl, (kp_set2 K1.out (by omega)).tr (Kp.alloc _ _ _)⟩
    · rw [h3] at CP
      clear h3
      go_enter Try.func38, Try.ntmps38
      go_wp2_with fail
      refine (CK.out _ (Kp.alloc _ _ _)).mono ?_
      rintro e w1 ⟨rfl, k1⟩
      have R := Lib.hid (k1.heap (at_new (n := w.heap.size) rfl) id)
      have hz1 : w.heap.size < w1.heap.size := by have := k1.size; simp at this; omega
      have K1 := Lib.hid ((Kp.alloc No w _).tr k1)
      clear k1 CK CC
      go_wp2_with fail
      refine (CP.out _ (K1.out.tr (Kp.alloc _ _ _))).mono ?_
      rintro e w2 ⟨rfl, k2⟩
      obtain ⟨r0, r1, z0, z1⟩ := two_cells (k2.heap ((Kp.alloc No _ _).heap R.out id) id)
      have K2 := Lib.hid (K1.out.tr ((Kp.alloc No _ _).tr k2))
      clear k2 CP R
      go_wp2_with fail
      exact bodyPost_ret (v := .tuple #[.agg #[.map none, .slice none 0 0], .int .i64 2]) (by simp [results, Try.results38, go_sem, r0, r1]) rfl ⟨rfl, kp_set2 K2.out (by omega)⟩
    · rw [h3] at CP
      rw [h4] at CC
      clear h3 h4
      go_enter Try.func38, Try.ntmps38
      go_wp2_with fail
      refine (CK.out _ (Kp.alloc _ _ _)).mono ?_
      rintro e w1 ⟨rfl, k1⟩
      have R := Lib.hid (k1.heap (at_new (n := w.heap.size) rfl) id)
      have hz1 : w.heap.size < w1.heap.size := by have := k1.size; simp at this; omega
      have K1 := Lib.hid ((Kp.alloc No w _).tr k1)
      clear k1 CK
      go_wp2_with fail
      refine (CP.out _ (K1.out.tr (Kp.alloc _ _ _))).mono ?_
      rintro e w2 ⟨rfl, k2⟩
      have hB : w2.cell? ⟨w1.heap.size, 0, none⟩ = some (.int .i64 (m : Nat)) := k2.cell (by go_simp) id
      have R2 := Lib.hid (k2.heap ((Kp.alloc No _ _).heap R.out id) id)
      have K2 := Lib.hid (K1.out.tr ((Kp.alloc No _ _).tr k2))
      have CB := Lib.hid (CC.out w2 w1.heap.size K2.out hB)
      clear k2 CP R CC
      go_wp2_with fail
      refine CB.out.mono ?_
      rintro e w3 ⟨rfl, k3⟩
      obtain ⟨r0, r1, z0, z1⟩ := two_cells (k3.heap R2.out id)
      have K3 := Lib.hid (K2.out.tr k3)
      clear k3 CB R2 hB
      go_wp2_with fail
      exact bodyPost_ret (v := .tuple #[.agg #[.map none, .slice none 0 0], .int .i64 2]) (by simp [results, Try.results38, go_sem, r0, r1]) rfl ⟨rfl, kp_set2 K3.out (by omega)⟩
  · have hE : opnE l ps = chkE l := by unfold opnE; rw [if_neg h0]
    have hb : (chkE l == 0) = false := by rw [beq_eq_false_iff_ne]; exact h0
    rw [hE]
    clear hE he h0
    generalize chkE l = z at *
    go_enter Try.func38, Try.ntmps38
    go_wp2_with fail
    refine (CK.out _ (Kp.alloc _ _ _)).mono ?_
    rintro e w1 ⟨rfl, k1⟩
    obtain ⟨r0, r1, z0, z1⟩ := two_cells (k1.heap (at_new (n := w.heap.size) rfl) id)
    have hz1 : w.heap.size < w1.heap.size := by have := k1.size; simp at this; omega
    have K1 := Lib.hid ((Kp.alloc No w _).tr k1)
    clear k1 CK
    go_wp2_with fail
    exact bodyPost_ret (v := .tuple #[.agg #[.map none, .slice none 0 0], .int .i64 z]) (by simp [results, Try.results38, go_sem, r0, r1]) rfl ⟨rfl, kp_set2 K1.out (by omega)⟩
end Go.Proofs.Ytlieijnhaolnhaa
