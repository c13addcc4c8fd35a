/- Chapter 14: the walk of the reference's Supply. -/
import Derived.Test.YtjjecadfcndkaaaGvs
import Derived.Test.YtjjecadfcndkaaaRdm
import Derived.Test.YtjjecadfcndkaaaHlv
import Derived.Test.YtjjecadfcndkaaaLea
import Derived.Test.YtjjecadfcndkaaaSpl
namespace Go.Proofs.Ytjjecadfcndkaaa
open Go.RowKit Go.Kq Go.Flow

theorem rdem_ok (N : Net) (hN : N.Ok) (A B D : Option Addr) (ca cb dc : Nat) (ds : List Int) (w : World) (hR : RdNet w A B N) (hD : RdI .i64 w D ds.length ds) (hl : ds.length = N.ch.length) (hd : ∀ d ∈ ds, dOk d) :
    Calls Try.prog 40 #[netV N A B ca cb, .slice D ds.length dc] w fun e w' => e = .returned (.int .i64 0) ∧ Kp No w w' := by
  have hc1 := hN.c1
  refine (rdem_net N hN A B D ca cb dc ds w hR hD (by omega)).mono ?_
  rintro e w' ⟨c, rfl, ⟨_, rfl⟩ | ⟨hb, _⟩, hk⟩
  · exact ⟨rfl, hk⟩
  · exact absurd ⟨hl, hd⟩ hb
theorem rdem_arg (N : Net) (hN : N.Ok) (A B D : Option Addr) (ca cb dc : Nat) (ds : List Int) (w : World) (hR : RdNet w A B N) (hD : RdI .i64 w D ds.length ds) (h20 : ds.length ≤ 1000000) (hb : ¬ (ds.length = N.ch.length ∧ ∀ d ∈ ds, dOk d)) :
    Calls Try.prog 40 #[netV N A B ca cb, .slice D ds.length dc] w fun e w' => e = .returned (.int .i64 2) ∧ Kp No w w' := by
  refine (rdem_net N hN A B D ca cb dc ds w hR hD h20).mono ?_
  rintro e w' ⟨c, rfl, ⟨hg, _⟩ | ⟨_, rfl⟩, hk⟩
  · exact absurd hg hb
  · exact ⟨rfl, hk⟩
theorem dok62 {ds : List Int} (h : ∀ d ∈ ds, dOk d) : ∀ d ∈ ds, 0 ≤ d ∧ d ≤ 62000000000000 := fun d hd => by
  have := h d hd
  unfold dOk at this
  omega
attribute [local go_sem ↓] Go.wp_at_zero Go.wp_at_succ
set_option maxHeartbeats 4000000 in
set_option maxRecDepth 100000 in
theorem rsup_no (N : Net) (hN : N.Ok) (h8 : N.n ≤ 8) (h14 : N.tr.length ≤ 14) (A B D : Option Addr) (ca cb dc : Nat) (hi : Bool) (ds : List Int) (R : Nat → Bool) (w : World) (hR : RdNet w A B N) (hD : RdI .i64 w D ds.length ds) (hnil : D = none → ds.length = 0 ∧ dc = 0) (hl : ds.length = N.ch.length) (hd : ∀ d ∈ ds, dOk d) (hRm : Min N.A0 (N.wt hi ds) R) (hlt : N.wt hi ds R < sumZ ds) :
    Calls Try.prog 19 #[netV N A B ca cb, .bool hi, .slice D ds.length dc] w fun e w' => ∃ v, e = .returned (.tuple #[.slice none 0 0, v, .int .i64 0]) ∧ w'.ownsRow w.heap.size 3 1 v (mem R N.n).length ((mem R N.n).map natV) ∧ Kp No w w' := by
  obtain ⟨i0, hi0, hz0, hz1, hz2⟩ := info_parts info2
  have hc1 := hN.c1
  have H1 := Lib.hid (fun W hR hD => rdem_ok N hN A B D ca cb dc ds W hR hD hl hd)
  have H2 := Lib.hid (fun W hR hD => gives_any N hN h8 h14 A B D none ca cb dc 0 hi ds [] W hR hD (RdI.nil _ _) (fun _ => ⟨rfl, rfl⟩) hl (dok62 hd) (by simp) (fun i f t h => by simp at h))
  have H3 := Lib.hid (fun g c W hR hD => least_dem N hN h8 A B ca cb c ⟨g, 0, none⟩ ds hi R W hR hD hl hd hRm)
  have HNF := Lib.hid (show ∀ F, ¬ N.Feas hi ds F from fun F hF => by have := feas_wt hl hF hRm.1; omega)
  have HR := Lib.hid hR
  have HD := Lib.hid hD
  have HNIL := Lib.hid hnil
  have hd16 : ds.length ≤ 16 := by omega
  clear hN hR hD hnil hl hd hRm hlt
  unfold netV at H1 H2 H3
  unfold netV
  simp only [List.length_nil] at H2
  go_enter Try.func19, Try.ntmps19
  go_wp2_with fail
  have K0 := Lib.hid (Kp.alloc No w (.cells #[.int .i64 N.n, .slice A N.tr.length ca, .slice B N.ch.length cb] 25))
  refine (H1.out _ (HR.out.no K0.out) (HD.out.no K0.out)).mono ?_
  rintro e w1 ⟨rfl, hk1⟩
  have B1 := Lib.hid (hk1.heap (heap_alloc_new w (.cells #[.int .i64 N.n, .slice A N.tr.length ca, .slice B N.ch.length cb] 25)) (fun h => h))
  have K1 := Lib.hid (K0.out.tr hk1)
  obtain ⟨x0, x1, x2⟩ := box3 B1.out
  clear hk1
  go_wp2_with fail
  refine (H2.out _ (HR.out.no K1.out) (HD.out.no K1.out)).mono ?_
  rintro e w2 ⟨hk2, ⟨G, v, hF, _, _⟩ | ⟨hno, rfl⟩⟩
  · exact absurd hF (HNF.out _)
  · have B2 := Lib.hid (hk2.heap B1.out (fun h => h))
    have K2 := Lib.hid (K1.out.tr hk2)
    clear hk2 hno x0 x1 x2
    obtain ⟨x0, x1, x2⟩ := box3 B2.out
    have hb2 := (Array.getElem?_eq_some_iff.1 B2.out).1
    have HD2 := Lib.hid (HD.out.no K2.out)
    have HLD := Lib.hid (show (ds.map (Value.int .i64)).length = ds.length * 1 by simp)
    have HONE := Lib.hid (ints_oneCell .i64 ds)
    have HNEW := Lib.hid (fun W hk => rdi_news (HD2.out.no (w' := W) hk))
    have hdnm : 0 + ds.length ≤ maxLen := by unfold maxLen; omega
    have hdnb : (0 + ds.length) * 8 ≤ 140737488355328 := by omega
    go_wp2_with fail
    go_region_held3 (fun w' => w'.cell? ⟨w.heap.size, 0, none⟩ = some (.int .i64 N.n) ∧ w'.cell? ⟨w.heap.size, 1, none⟩ = some (.slice A N.tr.length ca) ∧ w'.cell? ⟨w.heap.size, 2, none⟩ = some (.slice B N.ch.length cb)) (first | exact ⟨c60, c61, c62⟩ | go_keep | exact ⟨KR5.cell x0 (fun h => h), KR5.cell x1 (fun h => h), KR5.cell x2 (fun h => h)⟩)
      ((first | (refine stepS_append (by rfl) _ _ 38 (by rfl) w2.heap.size 2 i0 (.int .i64 0) 1 8 Try.underlying38 hi0 hz0 hz1 hz2 (by rfl) (by decide) (.slice (some ⟨w2.heap.size, 0, none⟩) 0 0) 0 [] (by rfl) (own_empty (w := w2.drew) (Nat.le_refl _)) D ds.length dc (ds.map (Value.int .i64)) (by rfl) HLD.out HNIL.out (HNEW.out _ ((Kp.drew No w2).tr (Kp.alloc No _ _))) HONE.out hdnm hdnb (by simp) ds.length (Nat.zero_add _) (ds.map (Value.int .i64)) (List.nil_append _) ?_; intro v5 w5 hown5 hgrow hnz5; obtain ⟨g5, c5, rfl⟩ := own_some hown5 (by simpa using hnz5); have KR5 : Kp No w2 w5 := (Kp.refl No w2).trans ((Kp.drew (fun k => w2.heap.size ≤ k) w2).tr ((Kp.alloc _ _ _).tr (Kp.grown hgrow fun k hk _ => by simp [Value.ownBlock] at hk; omega))) (fun k hk h => absurd h (Nat.not_le.2 hk)); have K5 : Kp No w w5 := K2.out.tr KR5; have RI5 : RdI .i64 w5 (some ⟨g5, 0, none⟩) ds.length ds := RdI.of_own hown5) | (go_at_call 32; have hcall := H3.out g5 c5 w5 (HR.out.no K5) RI5; refine hcall.mono ?_; clear hcall; rintro e w6 ⟨v6, rfl, hown6, hk6⟩; have c60 := (KR5.tr hk6).cell x0 (fun h => h); have c61 := (KR5.tr hk6).cell x1 (fun h => h); have c62 := (KR5.tr hk6).cell x2 (fun h => h); have HO6 := Lib.hid hown6; have HK6 := Lib.hid hk6; clear hown6 hk6)))
    go_wp2_with fail
    refine bodyPost_ret (v := .tuple #[.slice none 0 0, v6, .int .i64 0]) (by simp [results, Try.results19, go_sem]) rfl ⟨v6, rfl, own_mono HO6.out K5.size, K5.tr HK6.out⟩
end Go.Proofs.Ytjjecadfcndkaaa
