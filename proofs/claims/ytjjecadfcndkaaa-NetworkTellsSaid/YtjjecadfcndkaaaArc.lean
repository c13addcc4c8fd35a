/- Chapter 14: the walk of the reference's arcs. -/
import Derived.Test.YtjjecadfcndkaaaRps
import Derived.Test.YtjjecadfcndkaaaDem
namespace Go.Proofs.Ytjjecadfcndkaaa
open Go.RowKit Go.Kq Go.Flow

theorem info93 : (Try.prog.info? 93).map (fun i => (i.zero, i.size, i.bytes)) = some (some (.agg #[.int .i64 0, .int .i64 0, .int .i64 0, .int .i64 0]), 4, 32) := by kernel_rfl
theorem new4 (w : World) (p : Pi) : ∀ ad : Addr, some (⟨w.heap.size, 0, none⟩ : Addr) = some ad → ∀ j u, (a4 p)[j]? = some u → (w.alloc (.cells #[.int .i64 p.fr, .int .i64 p.to, .int .i64 p.mo, .int .i64 p.fl] 93)).cell? (ad.add j) = some u := by
  intro ad had j u hj
  cases had
  unfold a4 at hj
  rw [add_at, Nat.zero_add]
  match j, hj with
  | 0, hj => simp at hj; subst hj; go_simp
  | 1, hj => simp at hj; subst hj; go_simp
  | 2, hj => simp at hj; subst hj; go_simp
  | 3, hj => simp at hj; subst hj; go_simp
theorem a4_one (p : Pi) : ∀ u ∈ a4 p, u.oneCell' = true := by
  intro u hu
  simp only [a4, List.mem_cons, List.not_mem_nil, or_false] at hu
  rcases hu with rfl | rfl | rfl | rfl <;> rfl
theorem flat_snoc' {α : Type} {f : α → List Value} (vs : List α) (v : α) : vs.flatMap f ++ f v = (vs ++ [v]).flatMap f := by simp
attribute [local go_sem ↓] Go.wp_at_zero Go.wp_at_succ
set_option maxHeartbeats 8000000 in
set_option maxRecDepth 100000 in
theorem arcs_any (N : Net) (hN : N.Ok) (A B : Option Addr) (ca cb : Nat) (hi : Bool) (w : World) (hR : RdNet w A B N) :
    Calls Try.prog 50 #[netV N A B ca cb, .bool hi] w fun e w' => ∃ v, e = .returned v ∧ w'.ownsRow w.heap.size 93 4 v N.tr.length ((N.tr.map (tp hi)).flatMap a4) ∧ Kp No w w' := by
  obtain ⟨i0, hi0, hz0, hz1, hz2⟩ := info_parts info93
  have ht1 := hN.t1
  have HN := Lib.hid hN
  have HR := Lib.hid hR
  clear hN hR
  unfold netV
  go_enter Try.func50, Try.ntmps50
  go_wp2_with fail
  have B0 := Lib.hid (heap_alloc_new w (.cells #[.int .i64 N.n, .slice A N.tr.length ca, .slice B N.ch.length cb] 25))
  have K0 := Lib.hid (Kp.alloc No w (.cells #[.int .i64 N.n, .slice A N.tr.length ca, .slice B N.ch.length cb] 25))
  go_loopw [5, 6] (fun v i wr => ∃ k : Nat, k ≤ N.tr.length ∧ i = .int .i64 k ∧ wr.ownsRow (w.heap.size + 1) 93 4 v k (((N.tr.take k).map (tp hi)).flatMap a4) ∧ Kp No (w.alloc (.cells #[.int .i64 N.n, .slice A N.tr.length ca, .slice B N.ch.length cb] 25)) wr) (fun _ i _ => N.tr.length - (intOf i).toNat)
  case atStart => exact ⟨0, by omega, rfl, ⟨by simp, .inl ⟨rfl, rfl⟩⟩, Kp.refl _ _⟩
  case round =>
    obtain ⟨k, hk, rfl, hown, hkp⟩ := hrel
    obtain ⟨x0, x1, x2⟩ := box3 (hkp.heap B0.out (fun h => h))
    have hbs := (Array.getElem?_eq_some_iff.1 (hkp.heap B0.out (fun h => h))).1
    have HK := Lib.hid hkp
    have HO := Lib.hid hown
    obtain ⟨av, cv, rfl, _, _, _⟩ := own_form hown
    clear hkp hown
    by_cases hlt : (k : Int) < N.tr.length
    · obtain ⟨t, ht⟩ : ∃ t, N.tr[k]? = some t := ⟨_, List.getElem?_eq_getElem (by omega)⟩
      obtain ⟨bA, oA, rfl, hbA, t0, t1, t2, t3⟩ := (HR.out.no (K0.out.tr HK.out)).trunk ht
      have hn0 : ¬ w.heap.size + 1 ≤ w.heap.size := by omega
      have hnA : ¬ w.heap.size + 1 ≤ bA := by
        obtain ⟨b0, o0, e0, hb0, _⟩ := HR.out.trunk ht
        cases e0
        omega
      have hKs := K0.out.size
      have hKk := HK.out.size
      have hwz : w.heap.size + 1 ≤ wr.heap.size := by simp at hKk; omega
      have CAP := Lib.hid (cap_any t hi)
      have HT := Lib.hid (take_map_snoc (tp hi) N.tr k t ht)
      have HLN := Lib.hid (show (a4 (tp hi t)).length = 1 * 4 from rfl)
      have HNONE : ∀ b : Nat, (some (⟨b, 0, none⟩ : Addr) = none → (1 : Nat) = 0 ∧ (1 : Nat) = 0) := fun b h => by cases h
      have HNO := Lib.hid HNONE
      have h63 : k + 1 ≤ maxLen := by unfold maxLen; omega
      have hbytes : (k + 1) * 32 ≤ 140737488355328 := by omega
      clear ht HNONE
      go_wp2_with fail
      go_region_held3 (fun w' => w'.cell? ⟨w.heap.size, 1, none⟩ = some (.slice (some ⟨bA, oA, none⟩) N.tr.length ca) ∧ w'.cell? ⟨bA, oA + k * 4, none⟩ = some (.int .i64 t.fr) ∧ w'.cell? ⟨bA, oA + k * 4 + 1, none⟩ = some (.int .i64 t.to) ∧ w'.cell? ⟨bA, oA + k * 4 + 2, none⟩ = some (.int .i64 t.lo) ∧ w'.cell? ⟨bA, oA + k * 4 + 3, none⟩ = some (.int .i64 t.hi)) (first | exact ⟨c0, c1, c2, c3, c4⟩ | go_keep | (exact ⟨KG.cell c0 hn0, KG.cell c1 hnA, KG.cell c2 hnA, KG.cell c3 hnA, KG.cell c4 hnA⟩))
        ((first | (refine stepS_append (by rfl) _ _ 90 (by rfl) (w.heap.size + 1) 93 i0 (.agg #[.int .i64 0, .int .i64 0, .int .i64 0, .int .i64 0]) 4 32 Try.underlying90 hi0 hz0 hz1 hz2 (by rfl) (by decide) (.slice av k cv) k (((N.tr.take k).map (tp hi)).flatMap a4) (by rfl) (own_kp O2.out (Kp.alloc No _ _) (fun _ _ h => h)) (some ⟨w2.heap.size, 0, none⟩) 1 1 (a4 (tp hi t)) (by rfl) HLN.out (HNO.out _) (new4 w2 (tp hi t)) (a4_one _) h63 hbytes (by simp; omega) (k + 1) rfl _ (flat_snoc' _ _) ?_; intro v5 w5 hown5 hgrow hnz5; have KG : Kp (fun k => w.heap.size + 1 ≤ k) w2 w5 := (Kp.alloc _ _ _).tr (Kp.grown hgrow fun k hk _ => (own_ge O2.out hk).1)) | (go_at_call 42; refine (CAP.out _).mono ?_; rintro e w2 ⟨rfl, hk2⟩; have c0 := hk2.cell (a := ⟨w.heap.size, 1, none⟩) (v := .slice (some ⟨bA, oA, none⟩) N.tr.length ca) (by go_simp) (fun h => h); have c1 := hk2.cell (a := ⟨bA, oA + k * 4, none⟩) (v := .int .i64 t.fr) (by go_simp) (fun h => h); have c2 := hk2.cell (a := ⟨bA, oA + k * 4 + 1, none⟩) (v := .int .i64 t.to) (by go_simp) (fun h => h); have c3 := hk2.cell (a := ⟨bA, oA + k * 4 + 2, none⟩) (v := .int .i64 t.lo) (by go_simp) (fun h => h); have c4 := hk2.cell (a := ⟨bA, oA + k * 4 + 3, none⟩) (v := .int .i64 t.hi) (by go_simp) (fun h => h); have K2 := Lib.hid (HK.out.tr ((Kp.drew No _).tr hk2)); have hz2' := hk2.size; simp at hz2'; have O2 := Lib.hid (own_kp HO.out ((Kp.drew No _).tr hk2) (fun _ _ h => h)); clear hk2)))
      have K5 := Lib.hid (K2.out.trans KG fun k hk h => by simp at hk; omega)
      have O5 := Lib.hid hown5
      clear hown5 hgrow hnz5
      go_wp2_with fail
      go_roundw
      case rel => exact ⟨k + 1, by omega, by go_num, by rw [HT.out]; exact O5.out, K5.out⟩
      case measure => simp [intOf]; omega
    · obtain rfl : k = N.tr.length := by omega
      have HOF := Lib.hid (show wr.ownsRow (w.heap.size + 1) 93 4 (.slice av N.tr.length cv) N.tr.length ((N.tr.map (tp hi)).flatMap a4) by have := HO.out; rwa [List.take_length] at this)
      go_wp2_with fail
      refine bodyPost_ret (v := .slice av N.tr.length cv) (by simp [results, Try.results50, go_sem]) rfl ⟨_, rfl, own_mono HOF.out (by omega), K0.out.tr HK.out⟩
end Go.Proofs.Ytjjecadfcndkaaa
