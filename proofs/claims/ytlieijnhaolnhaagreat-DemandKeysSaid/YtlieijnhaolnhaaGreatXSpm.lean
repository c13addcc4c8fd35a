/- spans: Mul. Printed by gen_spm.py. -/
import Derived.Test.YtlieijnhaolnhaaGreatXSplM
import Derived.Test.YtlieijnhaolnhaaGreatXLibBoxM
namespace Go.Proofs.YtlieijnhaolnhaaGreat
open Go.RowKit Go.Kq

theorem twelve {w : World} {B : Nat} {t : TypeId} (h : w.heap[B]? = some (.cells #[.bool false, .int .u64 0, .int .u64 0, .bool false, .int .u64 0, .int .u64 0, .bool false, .int .u64 0, .int .u64 0, .bool false, .int .u64 0, .int .u64 0] t (0, 0))) : (w.cell? ⟨B, 0, none⟩ = some (.bool false) ∧ w.cell? ⟨B, 1, none⟩ = some (.int .u64 0) ∧ w.cell? ⟨B, 2, none⟩ = some (.int .u64 0) ∧ w.cell? ⟨B, 3, none⟩ = some (.bool false) ∧ w.cell? ⟨B, 4, none⟩ = some (.int .u64 0) ∧ w.cell? ⟨B, 5, none⟩ = some (.int .u64 0) ∧ w.cell? ⟨B, 6, none⟩ = some (.bool false) ∧ w.cell? ⟨B, 7, none⟩ = some (.int .u64 0) ∧ w.cell? ⟨B, 8, none⟩ = some (.int .u64 0) ∧ w.cell? ⟨B, 9, none⟩ = some (.bool false) ∧ w.cell? ⟨B, 10, none⟩ = some (.int .u64 0) ∧ w.cell? ⟨B, 11, none⟩ = some (.int .u64 0)) ∧ (w.frozen? ⟨B, 0, none⟩ = false ∧ w.frozen? ⟨B, 1, none⟩ = false ∧ w.frozen? ⟨B, 2, none⟩ = false ∧ w.frozen? ⟨B, 3, none⟩ = false ∧ w.frozen? ⟨B, 4, none⟩ = false ∧ w.frozen? ⟨B, 5, none⟩ = false ∧ w.frozen? ⟨B, 6, none⟩ = false ∧ w.frozen? ⟨B, 7, none⟩ = false ∧ w.frozen? ⟨B, 8, none⟩ = false ∧ w.frozen? ⟨B, 9, none⟩ = false ∧ w.frozen? ⟨B, 10, none⟩ = false ∧ w.frozen? ⟨B, 11, none⟩ = false) := by
  refine ⟨⟨?_, ?_, ?_, ?_, ?_, ?_, ?_, ?_, ?_, ?_, ?_, ?_⟩, ⟨?_, ?_, ?_, ?_, ?_, ?_, ?_, ?_, ?_, ?_, ?_, ?_⟩⟩
  all_goals first | (rw [cell_of_row w B _ _ _ _ h]; rfl) | simp [World.frozen?, h]
theorem ck2_cells (w0 : World) (g : Nat) (al ah bl bh : Int) (h0 : w0.cell? ⟨g, 0, none⟩ = some (.int .i64 al)) (h1 : w0.cell? ⟨g, 1, none⟩ = some (.int .i64 ah)) (h2 : w0.cell? ⟨g, 2, none⟩ = some (.int .i64 bl)) (h3 : w0.cell? ⟨g, 3, none⟩ = some (.int .i64 bh)) : ∀ (k : Nat) (x : Int × Int), [(al, ah), (bl, bh)][k]? = some x → w0.cell? ⟨g, 0 + k * 2, none⟩ = some (.int .i64 x.1) ∧ w0.cell? ⟨g, 0 + k * 2 + 1, none⟩ = some (.int .i64 x.2) := by
  intro k x hx
  match k, hx with
  | 0, hx => simp at hx; subst hx; exact ⟨h0, h1⟩
  | 1, hx => simp at hx; subst hx; exact ⟨h2, h3⟩
  | k + 2, hx => simp at hx
/-- Three cells that hold a long number. -/
def Tri (w : World) (g o : Nat) (p : Bool × Int × Int) : Prop := w.cell? ⟨g, o, none⟩ = some (.bool p.1) ∧ w.cell? ⟨g, o + 1, none⟩ = some (.int .u64 p.2.1) ∧ w.cell? ⟨g, o + 2, none⟩ = some (.int .u64 p.2.2)
theorem Tri.no {w w' : World} {g o : Nat} {p : Bool × Int × Int} (h : Tri w g o p) (k : Kp No w w') : Tri w' g o p := ⟨k.cell h.1 id, k.cell h.2.1 id, k.cell h.2.2 id⟩
theorem span_four (den : Nat) (x0 x1 x2 x3 : Int) (g : Nat) (w : World) (hd : 0 < den) (hd2 : den < 18446744073709551616)
    (h0 : Tri w g 0 (lgP x0))
    (h1 : Tri w g 3 (lgP x1))
    (h2 : Tri w g 6 (lgP x2))
    (h3 : Tri w g 9 (lgP x3)) :
    Calls Tryz.prog 100 #[.int .u64 (den : Nat), .slice (some ⟨g, 0, none⟩) 4 4] w fun e w' => e = .returned (ieV (spanV den x0 [x1, x2, x3])) ∧ Kp No w w' := by
  refine span_any den x0 [x1, x2, x3] g 0 3 4 w hd hd2 rfl (by omega) (by omega) (by omega) (by omega) ?_
  intro k v hx
  match k, hx with
  | 0, hx => simp at hx; subst hx; exact ⟨h0.1, h0.2.1, h0.2.2⟩
  | 1, hx => simp at hx; subst hx; exact ⟨h1.1, h1.2.1, h1.2.2⟩
  | 2, hx => simp at hx; subst hx; exact ⟨h2.1, h2.2.1, h2.2.2⟩
  | 3, hx => simp at hx; subst hx; exact ⟨h3.1, h3.2.1, h3.2.2⟩
  | k + 4, hx => simp at hx
/-- The world while the region runs: operation 21 makes the array, 22 fills it. -/
structure MulW (w1 : World) (pa pb pc pd : Bool × Int × Int) (r : Nat → Option Value) (w : World) : Prop where
  kp : Kp No w1 w
  zero : r 22 = none → ∀ u, r 21 = some u → ∃ g, u = .pointer (some ⟨g, 0, none⟩) ∧ w1.heap.size ≤ g ∧ w.heap[g]? = some (.cells #[.bool false, .int .u64 0, .int .u64 0, .bool false, .int .u64 0, .int .u64 0, .bool false, .int .u64 0, .int .u64 0, .bool false, .int .u64 0, .int .u64 0] 137 (0, 0))
  full : r 22 ≠ none → ∃ g, r 21 = some (.pointer (some ⟨g, 0, none⟩)) ∧ Tri w g 0 pa ∧ Tri w g 3 pb ∧ Tri w g 6 pc ∧ Tri w g 9 pd
section
variable {w1 w w' : World} {pa pb pc pd : Bool × Int × Int} {r : Nat → Option Value} {i : Nat}
theorem MulW.upd (h : MulW w1 pa pb pc pd r w) (hi : i < 21) (v : Value) : MulW w1 pa pb pc pd (Kq.upd r i v) w := by
  have e1 : Kq.upd r i v 21 = r 21 := upd_ne _ _ (by omega)
  have e2 : Kq.upd r i v 22 = r 22 := upd_ne _ _ (by omega)
  exact ⟨h.kp, by rw [e1, e2]; exact h.zero, by rw [e1, e2]; exact h.full⟩
theorem MulW.call (h : MulW w1 pa pb pc pd r w) (k : Kp No w w') : MulW w1 pa pb pc pd r w' := by
  refine ⟨h.kp.tr k, fun h2 u hu => ?_, fun h2 => ?_⟩
  · obtain ⟨g, h3, h4, h5⟩ := h.zero h2 u hu
    exact ⟨g, h3, h4, k.heap h5 id⟩
  · obtain ⟨g, h3, h4, h5, h6, h7⟩ := h.full h2
    exact ⟨g, h3, h4.no k, h5.no k, h6.no k, h7.no k⟩
theorem MulW.alloc (h : MulW w1 pa pb pc pd r w) (hr : r 21 = none) (o : Obj) (ho : o = .cells #[.bool false, .int .u64 0, .int .u64 0, .bool false, .int .u64 0, .int .u64 0, .bool false, .int .u64 0, .int .u64 0, .bool false, .int .u64 0, .int .u64 0] 137) : MulW w1 pa pb pc pd (Kq.upd r 21 (.pointer (some ⟨w.heap.size, 0, none⟩))) (w.alloc o) := by
  subst ho
  refine ⟨h.kp.tr (Kp.alloc _ _ _), fun h2 u hu => ?_, fun h2 => ?_⟩
  · rw [upd_same] at hu
    cases hu
    exact ⟨_, rfl, h.kp.size, at_new rfl⟩
  · rw [upd_ne _ _ (by omega)] at h2
    obtain ⟨g, h3, _⟩ := h.full h2
    rw [hr] at h3
    cases h3
theorem set12_tri {g : Nat} {t : TypeId} (h : w.heap[g]? = some (.cells #[.bool false, .int .u64 0, .int .u64 0, .bool false, .int .u64 0, .int .u64 0, .bool false, .int .u64 0, .int .u64 0, .bool false, .int .u64 0, .int .u64 0] t (0, 0))) : Tri ((((((((((((w.setCell ⟨g, 0, none⟩ (.bool pa.1)).setCell ⟨g, 1, none⟩ (.int .u64 pa.2.1)).setCell ⟨g, 2, none⟩ (.int .u64 pa.2.2)).setCell ⟨g, 3, none⟩ (.bool pb.1)).setCell ⟨g, 4, none⟩ (.int .u64 pb.2.1)).setCell ⟨g, 5, none⟩ (.int .u64 pb.2.2)).setCell ⟨g, 6, none⟩ (.bool pc.1)).setCell ⟨g, 7, none⟩ (.int .u64 pc.2.1)).setCell ⟨g, 8, none⟩ (.int .u64 pc.2.2)).setCell ⟨g, 9, none⟩ (.bool pd.1)).setCell ⟨g, 10, none⟩ (.int .u64 pd.2.1)).setCell ⟨g, 11, none⟩ (.int .u64 pd.2.2)) g 0 pa ∧ Tri ((((((((((((w.setCell ⟨g, 0, none⟩ (.bool pa.1)).setCell ⟨g, 1, none⟩ (.int .u64 pa.2.1)).setCell ⟨g, 2, none⟩ (.int .u64 pa.2.2)).setCell ⟨g, 3, none⟩ (.bool pb.1)).setCell ⟨g, 4, none⟩ (.int .u64 pb.2.1)).setCell ⟨g, 5, none⟩ (.int .u64 pb.2.2)).setCell ⟨g, 6, none⟩ (.bool pc.1)).setCell ⟨g, 7, none⟩ (.int .u64 pc.2.1)).setCell ⟨g, 8, none⟩ (.int .u64 pc.2.2)).setCell ⟨g, 9, none⟩ (.bool pd.1)).setCell ⟨g, 10, none⟩ (.int .u64 pd.2.1)).setCell ⟨g, 11, none⟩ (.int .u64 pd.2.2)) g 3 pb ∧ Tri ((((((((((((w.setCell ⟨g, 0, none⟩ (.bool pa.1)).setCell ⟨g, 1, none⟩ (.int .u64 pa.2.1)).setCell ⟨g, 2, none⟩ (.int .u64 pa.2.2)).setCell ⟨g, 3, none⟩ (.bool pb.1)).setCell ⟨g, 4, none⟩ (.int .u64 pb.2.1)).setCell ⟨g, 5, none⟩ (.int .u64 pb.2.2)).setCell ⟨g, 6, none⟩ (.bool pc.1)).setCell ⟨g, 7, none⟩ (.int .u64 pc.2.1)).setCell ⟨g, 8, none⟩ (.int .u64 pc.2.2)).setCell ⟨g, 9, none⟩ (.bool pd.1)).setCell ⟨g, 10, none⟩ (.int .u64 pd.2.1)).setCell ⟨g, 11, none⟩ (.int .u64 pd.2.2)) g 6 pc ∧ Tri ((((((((((((w.setCell ⟨g, 0, none⟩ (.bool pa.1)).setCell ⟨g, 1, none⟩ (.int .u64 pa.2.1)).setCell ⟨g, 2, none⟩ (.int .u64 pa.2.2)).setCell ⟨g, 3, none⟩ (.bool pb.1)).setCell ⟨g, 4, none⟩ (.int .u64 pb.2.1)).setCell ⟨g, 5, none⟩ (.int .u64 pb.2.2)).setCell ⟨g, 6, none⟩ (.bool pc.1)).setCell ⟨g, 7, none⟩ (.int .u64 pc.2.1)).setCell ⟨g, 8, none⟩ (.int .u64 pc.2.2)).setCell ⟨g, 9, none⟩ (.bool pd.1)).setCell ⟨g, 10, none⟩ (.int .u64 pd.2.1)).setCell ⟨g, 11, none⟩ (.int .u64 pd.2.2)) g 9 pd ∧ Kp (Kq.One g) w ((((((((((((w.setCell ⟨g, 0, none⟩ (.bool pa.1)).setCell ⟨g, 1, none⟩ (.int .u64 pa.2.1)).setCell ⟨g, 2, none⟩ (.int .u64 pa.2.2)).setCell ⟨g, 3, none⟩ (.bool pb.1)).setCell ⟨g, 4, none⟩ (.int .u64 pb.2.1)).setCell ⟨g, 5, none⟩ (.int .u64 pb.2.2)).setCell ⟨g, 6, none⟩ (.bool pc.1)).setCell ⟨g, 7, none⟩ (.int .u64 pc.2.1)).setCell ⟨g, 8, none⟩ (.int .u64 pc.2.2)).setCell ⟨g, 9, none⟩ (.bool pd.1)).setCell ⟨g, 10, none⟩ (.int .u64 pd.2.1)).setCell ⟨g, 11, none⟩ (.int .u64 pd.2.2)) := by
  have hh : ((((((((((((w.setCell ⟨g, 0, none⟩ (.bool pa.1)).setCell ⟨g, 1, none⟩ (.int .u64 pa.2.1)).setCell ⟨g, 2, none⟩ (.int .u64 pa.2.2)).setCell ⟨g, 3, none⟩ (.bool pb.1)).setCell ⟨g, 4, none⟩ (.int .u64 pb.2.1)).setCell ⟨g, 5, none⟩ (.int .u64 pb.2.2)).setCell ⟨g, 6, none⟩ (.bool pc.1)).setCell ⟨g, 7, none⟩ (.int .u64 pc.2.1)).setCell ⟨g, 8, none⟩ (.int .u64 pc.2.2)).setCell ⟨g, 9, none⟩ (.bool pd.1)).setCell ⟨g, 10, none⟩ (.int .u64 pd.2.1)).setCell ⟨g, 11, none⟩ (.int .u64 pd.2.2)).heap[g]? = some (.cells #[.bool pa.1, .int .u64 pa.2.1, .int .u64 pa.2.2, .bool pb.1, .int .u64 pb.2.1, .int .u64 pb.2.2, .bool pc.1, .int .u64 pc.2.1, .int .u64 pc.2.2, .bool pd.1, .int .u64 pd.2.1, .int .u64 pd.2.2] t (0, 0)) := by
    simp [World.setCell, Array.getElem?_modify, h]
  have c := fun i v (hv : (#[.bool pa.1, .int .u64 pa.2.1, .int .u64 pa.2.2, .bool pb.1, .int .u64 pb.2.1, .int .u64 pb.2.2, .bool pc.1, .int .u64 pc.2.1, .int .u64 pc.2.2, .bool pd.1, .int .u64 pd.2.1, .int .u64 pd.2.2] : Array Value)[i]? = some v) => (cell_of_row _ g i _ _ _ hh).trans hv
  refine ⟨⟨c 0 _ rfl, c 1 _ rfl, c 2 _ rfl⟩, ⟨c 3 _ rfl, c 4 _ rfl, c 5 _ rfl⟩, ⟨c 6 _ rfl, c 7 _ rfl, c 8 _ rfl⟩, ⟨c 9 _ rfl, c 10 _ rfl, c 11 _ rfl⟩, ?_⟩
  have s := fun w o v => Kp.setCell (Kq.One g) w ⟨g, o, none⟩ v (fun _ => rfl)
  exact ((((((((((((s _ _ _).tr (s _ _ _)).tr (s _ _ _)).tr (s _ _ _)).tr (s _ _ _)).tr (s _ _ _)).tr (s _ _ _)).tr (s _ _ _)).tr (s _ _ _)).tr (s _ _ _)).tr (s _ _ _)).tr (s _ _ _))
theorem MulW.store (h : MulW w1 pa pb pc pd r w) {g : Nat} (h1 : r 21 = some (.pointer (some ⟨g, 0, none⟩))) (hgl : w1.heap.size ≤ g) (hk : Kp (Kq.One g) w w')
    (ht : Tri w' g 0 pa ∧ Tri w' g 3 pb ∧ Tri w' g 6 pc ∧ Tri w' g 9 pd) (v : Value) : MulW w1 pa pb pc pd (Kq.upd r 22 v) w' := by
  refine ⟨h.kp.trans hk (fun k hk e => by unfold Kq.One at e; omega), fun h2 => ?_, fun _ => ⟨g, by rw [upd_ne _ _ (by omega)]; exact h1, ht⟩⟩
  rw [upd_same] at h2
  cases h2
end
set_option maxHeartbeats 4000000 in
set_option maxRecDepth 100000 in
theorem mul_ok (al ah bl bh : Int) (w : World) (hck : ckE [(al, ah), (bl, bh)] = 0) :
    Calls Tryz.prog 68 #[ivV al ah, ivV bl bh] w fun e w' => e = .returned (ieV (spanV 1 (al * bl) [al * bh, ah * bl, ah * bh])) ∧ Kp No w w' := by
  have hbd := ck_fits hck
  have hb1 := hbd (al, ah) (by simp)
  have hb2 := hbd (bl, bh) (by simp)
  have l1 := fits_bounds hb1.1
  have l2 := fits_bounds hb1.2
  have l3 := fits_bounds hb2.1
  have l4 := fits_bounds hb2.2
  simp only at l1 l2 l3 l4
  have HCK := Lib.hid (fun g w0 hc => check_any [(al, ah), (bl, bh)] g 0 2 2 w0 rfl (by omega) hc)
  rw [hck] at HCK
  have T0 := Lib.hid (fun w0 => times_any al bl w0 (by omega) (by omega) (by omega) (by omega))
  have T1 := Lib.hid (fun w0 => times_any al bh w0 (by omega) (by omega) (by omega) (by omega))
  have T2 := Lib.hid (fun w0 => times_any ah bl w0 (by omega) (by omega) (by omega) (by omega))
  have T3 := Lib.hid (fun w0 => times_any ah bh w0 (by omega) (by omega) (by omega) (by omega))
  have SP := Lib.hid (fun g w0 h0 h1 h2 h3 => span_four 1 (al * bl) (al * bh) (ah * bl) (ah * bh) g w0 (by omega) (by omega) h0 h1 h2 h3)
  have h1c : ((1 : Nat) : Int) = 1 := rfl
  rw [h1c] at SP
  generalize spanV 1 (al * bl) [al * bh, ah * bl, ah * bh] = sv at *
  simp only [lgV_p] at T0 T1 T2 T3
  generalize lgP (al * bl) = pa at *
  generalize lgP (al * bh) = pb at *
  generalize lgP (ah * bl) = pc at *
  generalize lgP (ah * bh) = pd at *
  clear hbd hb1 hb2 l1 l2 l3 l4 hck h1c
  obtain ⟨v1, v2, v3⟩ := sv
  simp only [ieV, ivV] at SP ⊢
  go_enter Tryz.func68, Tryz.ntmps68
  go_wp2_with fail
  refine (HCK.out _ _ (ck2_cells _ _ _ _ _ _ (by go_simp) (by go_simp) (by go_simp) (by go_simp))).mono ?_
  rintro e w1 ⟨rfl, hk⟩
  obtain ⟨c0, c1, _, _⟩ := two_cells (hk.heap (((Kp.alloc No _ _).tr ((Kp.alloc No _ _).tr (Kp.alloc No _ _))).heap (at_new (n := w.heap.size) rfl) id) id)
  obtain ⟨c2, c3, _, _⟩ := two_cells (hk.heap (((Kp.alloc No _ _).tr (Kp.alloc No _ _)).heap (at_new (n := w.heap.size + 1) (by simp)) id) id)
  have R := hk.heap ((Kp.alloc No _ _).heap (at_new (n := w.heap.size + 1 + 1) (by simp)) id) id
  have KP := (((Kp.alloc No w _).tr (Kp.alloc No _ _)).tr ((Kp.alloc No _ _).tr (Kp.alloc No _ _))).tr hk
  have hB2 : w.heap.size + 2 < w1.heap.size := by have := hk.size; simp at this; omega
  go_wp2_with fail
  have HR := Lib.hid R
  have HKP := Lib.hid KP
  clear R KP hk HCK
  refine wp_region_each (fun i u => match i with | 0 => u = .pointer (some ⟨w.heap.size, 0, none⟩) | 1 => u = .int .i64 al | 2 => u = .pointer (some ⟨w.heap.size + 1, 0, none⟩) | 3 => u = .int .i64 bl | 4 => u = p3V pa | 5 => u = .pointer (some ⟨w.heap.size, 0, none⟩) | 6 => u = .int .i64 al | 7 => u = .pointer (some ⟨w.heap.size + 1, 1, none⟩) | 8 => u = .int .i64 bh | 9 => u = p3V pb | 10 => u = .pointer (some ⟨w.heap.size, 1, none⟩) | 11 => u = .int .i64 ah | 12 => u = .pointer (some ⟨w.heap.size + 1, 0, none⟩) | 13 => u = .int .i64 bl | 14 => u = p3V pc | 15 => u = .pointer (some ⟨w.heap.size, 1, none⟩) | 16 => u = .int .i64 ah | 17 => u = .pointer (some ⟨w.heap.size + 1, 1, none⟩) | 18 => u = .int .i64 bh | 19 => u = p3V pd | 20 => u = .agg #[.bool pa.1, .int .u64 pa.2.1, .int .u64 pa.2.2, .bool pb.1, .int .u64 pb.2.1, .int .u64 pb.2.2, .bool pc.1, .int .u64 pc.2.1, .int .u64 pc.2.2, .bool pd.1, .int .u64 pd.2.1, .int .u64 pd.2.2] | _ => True) (MulW w1 pa pb pc pd) (by kernel_rfl) (by kernel_rfl) (by kernel_rfl) ?_ ?_ ?_
  · exact ⟨Kp.drew _ _, fun _ u hu => (by cases hu), fun h => absurd rfl h⟩
  refine ⟨?_, ?_, ?_, ?_, ?_, ?_, ?_, ?_, ?_, ?_, ?_, ?_, ?_, ?_, ?_, ?_, ?_, ?_, ?_, ?_, ?_, ?_, ?_, trivial⟩
  · intro r a w' hf hg hW hr hd K hK
    refine wpOp_of rfl rfl ?_
    have e0 : a.tmps.getD 2 undef = .pointer (some ⟨w.heap.size, 0, none⟩) := hf.evalFree (by kernel_rfl)
    go_simp
    exact hK _ _ rfl (hW.upd (by omega) _)
  · intro r a w' hf hg hW hr hd K hK
    refine wpOp_of rfl rfl ?_
    refine hf.depE hg hd 0 16 (by kernel_rfl) fun u0 e0 g0 _ => ?_
    replace g0 : u0 = .pointer (some ⟨w.heap.size, 0, none⟩) := g0
    subst g0
    have z0 := hW.kp.cell c0 id
    go_simp
    exact hK _ _ rfl (hW.upd (by omega) _)
  · intro r a w' hf hg hW hr hd K hK
    refine wpOp_of rfl rfl ?_
    have e0 : a.tmps.getD 3 undef = .pointer (some ⟨w.heap.size + 1, 0, none⟩) := hf.evalFree (by kernel_rfl)
    go_simp
    exact hK _ _ rfl (hW.upd (by omega) _)
  · intro r a w' hf hg hW hr hd K hK
    refine wpOp_of rfl rfl ?_
    refine hf.depE hg hd 2 18 (by kernel_rfl) fun u0 e0 g0 _ => ?_
    replace g0 : u0 = .pointer (some ⟨w.heap.size + 1, 0, none⟩) := g0
    subst g0
    have z0 := hW.kp.cell c2 id
    go_simp
    exact hK _ _ rfl (hW.upd (by omega) _)
  · intro r a w' hf hg hW hr hd K hK
    refine wpOp_of rfl rfl ?_
    refine hf.depE hg hd 1 17 (by kernel_rfl) fun u0 e0 g0 _ => ?_
    replace g0 : u0 = .int .i64 al := g0
    subst g0
    refine hf.depE hg hd 3 19 (by kernel_rfl) fun u1 e1 g1 _ => ?_
    replace g1 : u1 = .int .i64 bl := g1
    subst g1
    go_simp
    with_reducible refine (T0.out _).mono ?_
    rintro e w'' ⟨rfl, k⟩
    exact hK _ _ rfl ((hW.call k).upd (by omega) _)
  · intro r a w' hf hg hW hr hd K hK
    refine wpOp_of rfl rfl ?_
    have e0 : a.tmps.getD 2 undef = .pointer (some ⟨w.heap.size, 0, none⟩) := hf.evalFree (by kernel_rfl)
    go_simp
    exact hK _ _ rfl (hW.upd (by omega) _)
  · intro r a w' hf hg hW hr hd K hK
    refine wpOp_of rfl rfl ?_
    refine hf.depE hg hd 5 21 (by kernel_rfl) fun u0 e0 g0 _ => ?_
    replace g0 : u0 = .pointer (some ⟨w.heap.size, 0, none⟩) := g0
    subst g0
    have z0 := hW.kp.cell c0 id
    go_simp
    exact hK _ _ rfl (hW.upd (by omega) _)
  · intro r a w' hf hg hW hr hd K hK
    refine wpOp_of rfl rfl ?_
    have e0 : a.tmps.getD 3 undef = .pointer (some ⟨w.heap.size + 1, 0, none⟩) := hf.evalFree (by kernel_rfl)
    go_simp
    exact hK _ _ rfl (hW.upd (by omega) _)
  · intro r a w' hf hg hW hr hd K hK
    refine wpOp_of rfl rfl ?_
    refine hf.depE hg hd 7 23 (by kernel_rfl) fun u0 e0 g0 _ => ?_
    replace g0 : u0 = .pointer (some ⟨w.heap.size + 1, 1, none⟩) := g0
    subst g0
    have z0 := hW.kp.cell c3 id
    go_simp
    exact hK _ _ rfl (hW.upd (by omega) _)
  · intro r a w' hf hg hW hr hd K hK
    refine wpOp_of rfl rfl ?_
    refine hf.depE hg hd 6 22 (by kernel_rfl) fun u0 e0 g0 _ => ?_
    replace g0 : u0 = .int .i64 al := g0
    subst g0
    refine hf.depE hg hd 8 24 (by kernel_rfl) fun u1 e1 g1 _ => ?_
    replace g1 : u1 = .int .i64 bh := g1
    subst g1
    go_simp
    with_reducible refine (T1.out _).mono ?_
    rintro e w'' ⟨rfl, k⟩
    exact hK _ _ rfl ((hW.call k).upd (by omega) _)
  · intro r a w' hf hg hW hr hd K hK
    refine wpOp_of rfl rfl ?_
    have e0 : a.tmps.getD 2 undef = .pointer (some ⟨w.heap.size, 0, none⟩) := hf.evalFree (by kernel_rfl)
    go_simp
    exact hK _ _ rfl (hW.upd (by omega) _)
  · intro r a w' hf hg hW hr hd K hK
    refine wpOp_of rfl rfl ?_
    refine hf.depE hg hd 10 26 (by kernel_rfl) fun u0 e0 g0 _ => ?_
    replace g0 : u0 = .pointer (some ⟨w.heap.size, 1, none⟩) := g0
    subst g0
    have z0 := hW.kp.cell c1 id
    go_simp
    exact hK _ _ rfl (hW.upd (by omega) _)
  · intro r a w' hf hg hW hr hd K hK
    refine wpOp_of rfl rfl ?_
    have e0 : a.tmps.getD 3 undef = .pointer (some ⟨w.heap.size + 1, 0, none⟩) := hf.evalFree (by kernel_rfl)
    go_simp
    exact hK _ _ rfl (hW.upd (by omega) _)
  · intro r a w' hf hg hW hr hd K hK
    refine wpOp_of rfl rfl ?_
    refine hf.depE hg hd 12 28 (by kernel_rfl) fun u0 e0 g0 _ => ?_
    replace g0 : u0 = .pointer (some ⟨w.heap.size + 1, 0, none⟩) := g0
    subst g0
    have z0 := hW.kp.cell c2 id
    go_simp
    exact hK _ _ rfl (hW.upd (by omega) _)
  · intro r a w' hf hg hW hr hd K hK
    refine wpOp_of rfl rfl ?_
    refine hf.depE hg hd 11 27 (by kernel_rfl) fun u0 e0 g0 _ => ?_
    replace g0 : u0 = .int .i64 ah := g0
    subst g0
    refine hf.depE hg hd 13 29 (by kernel_rfl) fun u1 e1 g1 _ => ?_
    replace g1 : u1 = .int .i64 bl := g1
    subst g1
    go_simp
    with_reducible refine (T2.out _).mono ?_
    rintro e w'' ⟨rfl, k⟩
    exact hK _ _ rfl ((hW.call k).upd (by omega) _)
  · intro r a w' hf hg hW hr hd K hK
    refine wpOp_of rfl rfl ?_
    have e0 : a.tmps.getD 2 undef = .pointer (some ⟨w.heap.size, 0, none⟩) := hf.evalFree (by kernel_rfl)
    go_simp
    exact hK _ _ rfl (hW.upd (by omega) _)
  · intro r a w' hf hg hW hr hd K hK
    refine wpOp_of rfl rfl ?_
    refine hf.depE hg hd 15 31 (by kernel_rfl) fun u0 e0 g0 _ => ?_
    replace g0 : u0 = .pointer (some ⟨w.heap.size, 1, none⟩) := g0
    subst g0
    have z0 := hW.kp.cell c1 id
    go_simp
    exact hK _ _ rfl (hW.upd (by omega) _)
  · intro r a w' hf hg hW hr hd K hK
    refine wpOp_of rfl rfl ?_
    have e0 : a.tmps.getD 3 undef = .pointer (some ⟨w.heap.size + 1, 0, none⟩) := hf.evalFree (by kernel_rfl)
    go_simp
    exact hK _ _ rfl (hW.upd (by omega) _)
  · intro r a w' hf hg hW hr hd K hK
    refine wpOp_of rfl rfl ?_
    refine hf.depE hg hd 17 33 (by kernel_rfl) fun u0 e0 g0 _ => ?_
    replace g0 : u0 = .pointer (some ⟨w.heap.size + 1, 1, none⟩) := g0
    subst g0
    have z0 := hW.kp.cell c3 id
    go_simp
    exact hK _ _ rfl (hW.upd (by omega) _)
  · intro r a w' hf hg hW hr hd K hK
    refine wpOp_of rfl rfl ?_
    refine hf.depE hg hd 16 32 (by kernel_rfl) fun u0 e0 g0 _ => ?_
    replace g0 : u0 = .int .i64 ah := g0
    subst g0
    refine hf.depE hg hd 18 34 (by kernel_rfl) fun u1 e1 g1 _ => ?_
    replace g1 : u1 = .int .i64 bh := g1
    subst g1
    go_simp
    with_reducible refine (T3.out _).mono ?_
    rintro e w'' ⟨rfl, k⟩
    exact hK _ _ rfl ((hW.call k).upd (by omega) _)
  · intro r a w' hf hg hW hr hd K hK
    refine wpOp_of rfl rfl ?_
    refine hf.depE hg hd 4 20 (by kernel_rfl) fun u0 e0 g0 _ => ?_
    replace g0 : u0 = p3V pa := g0
    subst g0
    refine hf.depE hg hd 9 25 (by kernel_rfl) fun u1 e1 g1 _ => ?_
    replace g1 : u1 = p3V pb := g1
    subst g1
    refine hf.depE hg hd 14 30 (by kernel_rfl) fun u2 e2 g2 _ => ?_
    replace g2 : u2 = p3V pc := g2
    subst g2
    refine hf.depE hg hd 19 35 (by kernel_rfl) fun u3 e3 g3 _ => ?_
    replace g3 : u3 = p3V pd := g3
    subst g3
    have e0' := get_of_getD e0
    have e1' := get_of_getD e1
    have e2' := get_of_getD e2
    have e3' := get_of_getD e3
    simp only [p3V] at e0 e1 e2 e3 e0' e1' e2' e3'
    go_simp
    exact hK _ _ rfl (hW.upd (by omega) _)
  · intro r a w' hf hg hW hr hd K hK
    refine wpOp_of rfl rfl ?_
    go_simp
    exact hK _ _ trivial (hW.alloc hr _ rfl)
  · intro r a w' hf hg hW hr hd K hK
    refine wpOp_of rfl rfl ?_
    refine hf.depE hg hd 20 36 (by kernel_rfl) fun u0 e0 g0 _ => ?_
    replace g0 : u0 = .agg #[.bool pa.1, .int .u64 pa.2.1, .int .u64 pa.2.2, .bool pb.1, .int .u64 pb.2.1, .int .u64 pb.2.2, .bool pc.1, .int .u64 pc.2.1, .int .u64 pc.2.2, .bool pd.1, .int .u64 pd.2.1, .int .u64 pd.2.2] := g0
    subst g0
    refine hf.depE hg hd 21 7 (by kernel_rfl) fun u1 e1 _ h1 => ?_
    obtain ⟨g, rfl, hgl, hz⟩ := hW.zero hr u1 h1
    obtain ⟨⟨a0, a1, a2, a3, a4, a5, a6, a7, a8, a9, a10, a11⟩, f0, f1, f2, f3, f4, f5, f6, f7, f8, f9, f10, f11⟩ := twelve hz
    go_simp
    have st := set12_tri (pa := pa) (pb := pb) (pc := pc) (pd := pd) hz
    exact hK undef _ trivial (hW.store h1 hgl st.2.2.2.2 ⟨st.1, st.2.1, st.2.2.1, st.2.2.2.1⟩ _)
  intro r' w3 hg hW hr'
  obtain ⟨g, hg21, t0, t1, t2, t3⟩ := hW.full (hr' 22 (by decide))
  have hkN := hW.kp
  clear hg hW hr'
  simp only [List.length_cons, List.length_nil, Nat.reduceAdd, List.range_succ, List.range_zero, List.nil_append, List.cons_append, List.map_cons, List.map_nil, putAll, Act.put, List.setIfInBounds_toArray, List.set_cons_succ, List.set_cons_zero, hg21, Option.getD_some]
  have HG := Lib.hid hg21
  have S4 := Lib.hid (SP.out g w3 t0 t1 t2 t3)
  clear hg21 t0 t1 t2 t3 c0 c1 c2 c3
  go_wp2_with fail
  refine S4.out.mono ?_
  rintro e w4 ⟨rfl, k4⟩
  obtain ⟨r0, r1, z0, z1⟩ := two_cells ((hkN.tr k4).heap HR.out id)
  go_wp2_with fail
  exact bodyPost_ret (v := .tuple #[.agg #[.int .i64 v1, .int .i64 v2], .int .i64 v3]) (by simp [results, Tryz.results68, go_sem, r0, r1]) rfl ⟨rfl, kp_set2 (HKP.out.tr (hkN.tr k4)) (by omega)⟩
end Go.Proofs.YtlieijnhaolnhaaGreat
