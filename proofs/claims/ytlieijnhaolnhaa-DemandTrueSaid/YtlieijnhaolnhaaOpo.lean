/- Chapter 13: open, where nothing is wrong: the walk. -/
import Derived.Test.YtlieijnhaolnhaaOpb
namespace Go.Proofs.Ytlieijnhaolnhaa
open Go.RowKit Go.Kq

theorem opn_zero {l : List Rw} {ps : List Int} (h : opnE l ps = 0) : chkE l = 0 ∧ 1 ≤ ps.length ∧ ps.length ≤ 16 ∧ ps.any (fun p => !preB p) = false ∧ l.any (fun x => decide ((ps.length : Int) ≤ x.c)) = false := by
  unfold opnE at h
  by_cases h0 : chkE l = 0
  · rw [if_pos h0] at h
    by_cases h1 : ps.length < 1 ∨ 16 < ps.length ∨ ps.any (fun p => !preB p) = true ∨ l.any (fun x => decide ((ps.length : Int) ≤ x.c)) = true
    · rw [if_pos h1] at h
      omega
    · refine ⟨h0, ?_, ?_, ?_, ?_⟩
      · exact Nat.not_lt.1 fun h => h1 (.inl h)
      · exact Nat.not_lt.1 fun h => h1 (.inr (.inl h))
      · exact Bool.eq_false_iff.2 fun h => h1 (.inr (.inr (.inl h)))
      · exact Bool.eq_false_iff.2 fun h => h1 (.inr (.inr (.inr h)))
  · rw [if_neg h0] at h
    exact absurd h h0
theorem chk_zero {l : List Rw} (h : chkE l = 0) : l.length ≤ 2000 ∧ l.any rowB = false ∧ risB (l.map Rw.pp) = true := by
  unfold chkE at h
  by_cases h1 : 2000 < l.length
  · rw [if_pos h1] at h
    omega
  · rw [if_neg h1] at h
    cases h2 : l.any rowB
    · rw [h2] at h
      cases h3 : risB (l.map Rw.pp)
      · rw [h3] at h
        simp at h
      · exact ⟨by omega, rfl, rfl⟩
    · rw [h2, if_pos rfl] at h
      omega
set_option maxHeartbeats 4000000 in
set_option maxRecDepth 100000 in
theorem open_ok (A P : Option Addr) (n m ca cp : Nat) (l : List Rw) (ps : List Int) (w : World) (hx : Rd rwC 5 w A n l) (hp : RdI .i64 w P m ps) (he : opnE l ps = 0) :
    Calls Try.prog 38 #[.slice A n ca, .slice P m cp] w fun e w' => ∃ g, e = .returned (.tuple #[.agg #[.map (some g), .slice P m cp], .int .i64 0]) ∧ MapAt w' g ep rwV (bookL l) ∧ w.heap.size ≤ g ∧ Kp No w w' := by
  have hmm := @run_makeMap Try.prog
  have hpl := hp.1
  have hxl := hx.1
  obtain ⟨h0, h1, h2, h3, h4⟩ := opn_zero he
  obtain ⟨hn2, _, _⟩ := chk_zero h0
  rw [hpl] at h1 h2 h4
  rw [hxl] at hn2
  have CK := Lib.hid (fun w0 hk => Check_any A n ca l w0 (hx.no (w' := w0) hk))
  rw [h0] at CK
  have CP := Lib.hid (fun w0 hk => contains_int P m cp ps (fun p => !preB p) w0 (hp.no (w' := w0) hk) (by omega) (fun v w' _ => openP_any v w'))
  have CC := Lib.hid (fun w0 B hk (hB : w0.cell? ⟨B, 0, none⟩ = some (.int .i64 (m : Nat))) => contains_rowo (cv := .pointer (some ⟨B, 0, none⟩)) A n ca l (fun x => decide ((m : Int) ≤ x.c)) w0 (hx.no (w' := w0) hk) (by omega) (fun v w' k' => openC_any v B m w' (k'.cell hB id)))
  rw [h3] at CP
  rw [h4] at CC
  have HX := Lib.hid hx
  clear h0 h3 h4 he hp hpl hxl hx
  go_enter Try.func38, Try.ntmps38
  go_wp2_with fail
  refine (CK.out _ (Kp.alloc _ _ _)).mono ?_
  rintro e w1 ⟨rfl, k1⟩
  have R := Lib.hid (k1.heap (at_new (n := w.heap.size) rfl) id)
  have hz1 : w.heap.size < w1.heap.size := by have := k1.size; simp at this; omega
  have K1 := Lib.hid ((Kp.alloc No w _).tr k1)
  clear k1 CK
  go_wp2_with fail
  refine (CP.out _ (K1.out.tr (Kp.alloc _ _ _))).mono ?_
  rintro e w2 ⟨rfl, k2⟩
  have hB : w2.cell? ⟨w1.heap.size, 0, none⟩ = some (.int .i64 (m : Nat)) := k2.cell (by go_simp) id
  have R2 := Lib.hid (k2.heap ((Kp.alloc No _ _).heap R.out id) id)
  have K2 := Lib.hid (K1.out.tr ((Kp.alloc No _ _).tr k2))
  have CB := Lib.hid (CC.out w2 w1.heap.size K2.out hB)
  clear k2 CP R CC
  go_wp2_with fail
  refine CB.out.mono ?_
  rintro e w3 ⟨rfl, k3⟩
  have R3 := Lib.hid (k3.heap R2.out id)
  have hz3 : w.heap.size < w3.heap.size := (Array.getElem?_eq_some_iff.1 R3.out).1
  have K3 := Lib.hid (K2.out.tr k3)
  clear k3 CB R2 hB
  go_wp2_with fail
  go_loopw [40] (fun i wr => ∃ k : Nat, k ≤ n ∧ i = .int .i64 k ∧ MapAt wr w3.heap.size ep rwV (bookL (l.take k)) ∧ wr.heap[w3.heap.size + 1]? = some (.cells #[.map (some w3.heap.size), .slice P m cp] 77 (0, 0)) ∧ wr.heap[w.heap.size]? = some (.cells #[.map none, .slice none 0 0] 77 (0, 0)) ∧ Kp No w wr) (fun i _ => n - (intOf i).toNat)
  case atStart =>
    refine ⟨0, by omega, rfl, ?_, at_new (by simp), ?_, ?_⟩
    · exact (MapAt.made w3 ep rwV).alloc _
    · exact (Kp.alloc No _ _).heap ((Kp.alloc No _ _).heap R3.out id) id
    · exact K3.out.tr ((Kp.alloc No _ _).tr (Kp.alloc No _ _))
  case round =>
    obtain ⟨k, hk, rfl, hmap, hb, hr, hkp⟩ := hrel
    obtain ⟨b0, b1, _, _⟩ := two_cells hb
    by_cases hlt : k < n
    · obtain ⟨x, hxk⟩ : ∃ x, l[k]? = some x := ⟨_, List.getElem?_eq_getElem (by have := HX.out.1; omega)⟩
      obtain ⟨b, o, rfl, hbl, hc⟩ := HX.out.2 k x hxk
      have c0 := hkp.cell (hc 0 _ rfl) id
      have c1 := hkp.cell (hc 1 _ rfl) id
      have c2 := hkp.cell (hc 2 _ rfl) id
      have c3 := hkp.cell (hc 3 _ rfl) id
      have c4 := hkp.cell (hc 4 _ rfl) id
      simp only [Nat.add_zero] at c0
      have HSN := Lib.hid (show bookL (l.take (k + 1)) = ins x.pp x (bookL (l.take k)) by rw [List.take_add_one, hxk]; exact bookL_snoc _ _)
      have HM := Lib.hid hmap
      have HB := Lib.hid hb
      have HR := Lib.hid hr
      have HK := Lib.hid hkp
      have hzr : w3.heap.size + 1 < wr.heap.size := (Array.getElem?_eq_some_iff.1 hb).1
      clear hxk hc hmap hb hr hkp
      go_wp2_with (at_mapUpdate; refine stop_in ?_)
      refine stop_out ?_
      refine wpL_update _ rfl _ _ _ 75 rfl pkeyOk Try.underlying75 (HM.out.alloc _) x.pp x rfl rfl rfl ?_
      intro w5 hm5 hg5 hs5
      have hk5 : Kp (Kq.One w3.heap.size) (wr.alloc (.cells #[.int .i64 x.r, .int .i64 x.n, .int .i64 x.b, .int .i64 x.f, .int .i64 x.c] 53)) w5 := Kp.grown hg5 (fun k h _ => (Option.some.inj h).symm)
      have HM5 := Lib.hid hm5
      have HB5 := Lib.hid (hk5.heap ((Kp.alloc No _ _).heap HB.out id) (fun e => by unfold Kq.One at e; omega))
      have HR5 := Lib.hid (hk5.heap ((Kp.alloc No _ _).heap HR.out id) (fun e => by unfold Kq.One at e; omega))
      have HK5 := Lib.hid (HK.out.trans ((Kp.alloc (Kq.One w3.heap.size) wr _).tr hk5) (fun k hk h => by unfold Kq.One at h; omega))
      clear hm5 hg5 hs5 hk5 c0 c1 c2 c3 c4 b0 b1
      go_wp2_with fail
      go_roundw
      case rel => exact ⟨k + 1, by omega, by go_num, by rw [HSN.out]; exact HM5.out, HB5.out, HR5.out, HK5.out⟩
      case measure => simp [intOf]; omega
    · obtain rfl : k = n := by omega
      have hf : l.take k = l := List.take_of_length_le (by have := HX.out.1; omega)
      rw [hf] at hmap
      obtain ⟨r0, r1, z0, z1⟩ := two_cells hr
      have HM := Lib.hid hmap
      have HK := Lib.hid hkp
      clear hmap hkp hf hr hb
      go_wp2_with fail
      refine bodyPost_ret (v := .tuple #[.agg #[.map (some w3.heap.size), .slice P m cp], .int .i64 0]) (by simp [results, Try.results38, go_sem, r0, r1]) rfl ⟨_, rfl, ?_, by omega, kp_set2 HK.out (by omega)⟩
      exact HM.out.of_block (by have h1 : w.heap.size ≠ w3.heap.size := by omega
                                simp [World.setCell, Array.getElem?_modify, h1])
end Go.Proofs.Ytlieijnhaolnhaa
