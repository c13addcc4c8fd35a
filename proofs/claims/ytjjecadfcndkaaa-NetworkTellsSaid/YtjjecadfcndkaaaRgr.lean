/- Chapter 14: the walks of the reference's greatest and Greatest. -/
import Derived.Test.YtjjecadfcndkaaaArc
namespace Go.Proofs.Ytjjecadfcndkaaa
open Go.RowKit Go.Kq Go.Flow

/-- Arcs in a slice, none too. -/
def ArcsV (w : World) (base : Nat) (v : Value) (m : Nat) (L : List Pi) : Prop :=
  (m = 0 ∧ L = [] ∧ ∃ A c, v = .slice A 0 c) ∨ ∃ g o c, v = .slice (some ⟨g, o, none⟩) m c ∧ Arcs w base g o m L
theorem ArcsV.of_own {w : World} {base : Nat} {v : Value} {m : Nat} {L : List Pi} (h : w.ownsRow base 93 4 v m (L.flatMap a4)) : ArcsV w base v m L := by
  have hl := own_count a4_len h (by decide)
  by_cases hm : m = 0
  · subst hm
    obtain ⟨a, c, rfl, _⟩ := own_form h
    exact .inl ⟨rfl, List.length_eq_zero_iff.1 hl, a, c, rfl⟩
  · obtain ⟨g, c, rfl⟩ := own_posn h (by omega)
    refine .inr ⟨g, 0, c, rfl, (own_ge h (g := g) rfl).1, hl, ?_⟩
    rcases h.2 with ⟨h0, _⟩ | ⟨g', cap', cur, hv, hb, hg, h1, h2, h3, h4⟩
    · cases h0
    · cases hv
      refine ⟨cur, hg, fun j u hj => ?_⟩
      rw [← h4, List.getElem?_take] at hj
      split at hj
      · rw [Nat.zero_add]
        simpa using hj
      · cases hj
theorem ArcsV.mono {w : World} {base base' : Nat} {v : Value} {m : Nat} {L : List Pi} (h : ArcsV w base v m L) (hb : base' ≤ base) : ArcsV w base' v m L := by
  rcases h with h | ⟨g, o, c, h1, h2⟩
  · exact .inl h
  · exact .inr ⟨g, o, c, h1, Nat.le_trans hb h2.ge, h2.len, h2.row⟩
theorem ArcsV.no {w w' : World} {base : Nat} {v : Value} {m : Nat} {L : List Pi} (h : ArcsV w base v m L) (hk : Kp No w w') : ArcsV w' base v m L := by
  rcases h with h | ⟨g, o, c, h1, h2⟩
  · exact .inl h
  · exact .inr ⟨g, o, c, h1, h2.kp hk (fun h => h)⟩
/-- What push returns of arcs in a slice. -/
def PushV (w : World) (base : Nat) (v : Value) (m : Nat) (L : List Pi) (s t : Nat) (e : Ending) (w' : World) : Prop :=
  ∃ L' d, e = .returned (.int .i64 d) ∧ ArcsV w' base v m L' ∧ Pushed L L' s t d ∧ 0 ≤ d ∧ (∃ b m, Lab L' s b m ∧ Clo (Rs s b) L' ∧ Rs s b t = false) ∧ Kp (fun k => base ≤ k) w w'
set_option maxRecDepth 100000 in
theorem rpush_nil (A : Option Addr) (ca n s t : Nat) (w : World) (hn : n ≤ 30) (hs : s < n) (ht : t < n) (hne : s ≠ t) :
    Calls Try.prog 51 #[.slice A 0 ca, .int .i64 n, .int .i64 s, .int .i64 t] w fun e w' => e = .returned (.int .i64 0) ∧ (∃ b m, Lab [] s b m ∧ Clo (Rs s b) [] ∧ Rs s b t = false) ∧ Kp No w w' := by
  have HC := Lib.hid (fun W => path_any [] A ca n s t W (Rd.nil W A) (fun p hp => by cases hp) (fun p hp => by cases hp) hn hs ht (by simp))
  have HNE := Lib.hid hne
  clear hne
  simp only [List.length_nil] at HC
  go_enter Try.func51, Try.ntmps51
  go_wp2_with fail
  go_loopw [9] (fun sv wr => sv = .int .i64 0 ∧ wr = w) (fun _ _ => 0)
  case atStart => exact ⟨rfl, rfl⟩
  case round =>
    obtain ⟨rfl, rfl⟩ := hrel
    go_wp2_with fail
    refine (HC.out _).mono ?_
    rintro e w1 ⟨hk1, ⟨b, l, v, hway, hd, hll, rfl, hown⟩ | ⟨b, mm, hlab, hclo, hno, rfl⟩⟩
    · exfalso
      cases hway with
      | nil => exact HNE.out rfl
      | cons _ _ hR _ =>
        obtain ⟨p, hp, _⟩ := hR
        simp at hp
    · have HCL := Lib.hid (show ∃ b m, Lab [] s b m ∧ Clo (Rs s b) [] ∧ Rs s b t = false from ⟨b, mm, hlab, hclo, hno⟩)
      clear hlab hclo hno
      go_wp2_with fail
      go_ret
      exact ⟨rfl, HCL.out, hk1⟩
theorem rpush_all (L : List Pi) (base m n s t : Nat) (v : Value) (M : Int) (w : World) (hA : ArcsV w base v m L) (hst : ∀ p ∈ L, p.st = false) (hb : ∀ p ∈ L, p.fr < n ∧ p.to < n ∧ p.fr ≠ p.to) (hmo : ∀ p ∈ L, 0 ≤ p.mo ∧ p.mo ≤ 1152921504606846976) (hz : ∀ p ∈ L, p.fl = 0) (hM : cut (fun v => decide (v = s)) L ≤ M) (hM2 : M ≤ 10000000000000000) (hn : n ≤ 30) (hs : s < n) (ht : t < n) (hne : s ≠ t) (hL : m ≤ 200) :
    Calls Try.prog 51 #[v, .int .i64 n, .int .i64 s, .int .i64 t] w fun e w' => PushV w base v m L s t e w' := by
  rcases hA with ⟨rfl, rfl, A, c, rfl⟩ | ⟨g, o, c, rfl, hA⟩
  · refine (rpush_nil A c n s t w hn hs ht hne).mono ?_
    rintro e w' ⟨rfl, hc, hk⟩
    exact ⟨[], 0, rfl, .inl ⟨rfl, rfl, A, c, rfl⟩, Pushed.refl (fun p hp => by cases hp) _ _, by omega, hc, hk.of_no⟩
  · refine (rpush_any L base g o m c n s t M w hA hst hb hmo hz hM hM2 hn hs ht hne hL).mono ?_
    rintro e w' ⟨L', d, rfl, h1, h2, h3, h4, h5⟩
    exact ⟨L', d, rfl, .inr ⟨g, o, c, rfl, h1⟩, h2, h3, h4, h5.mono fun k _ e => by have e2 : k = g := e; rw [e2]; exact hA.ge⟩
theorem lay_fl {N : Net} {h : Bool} {ds : List Int} : ∀ p ∈ N.lay h ds, p.fl = 0 := fun p hp => by
  rcases List.mem_append.1 hp with hp | hp
  · obtain ⟨t, _, rfl⟩ := List.mem_map.1 hp
    rfl
  · obtain ⟨t, _, rfl⟩ := List.mem_map.1 hp
    rfl
theorem lay_in {N : Net} (hN : N.Ok) {h : Bool} {ds : List Int} : ∀ p ∈ N.lay h ds, p.fr < N.n + 1 ∧ p.to < N.n + 1 ∧ p.fr ≠ p.to := fun p hp => by
  rcases List.mem_append.1 hp with hp | hp
  · obtain ⟨t, ht, rfl⟩ := List.mem_map.1 hp
    have := hN.tk t ht
    exact ⟨by show t.fr < _; omega, by show t.to < _; omega, this.2.2.1⟩
  · obtain ⟨x, hx, rfl⟩ := List.mem_map.1 hp
    have := hN.ck x.1 (mem_zip_fst hx)
    exact ⟨by show x.1 < _; omega, by show N.n < _; omega, by show x.1 ≠ N.n; omega⟩
theorem lay_mo {N : Net} (hN : N.Ok) {h : Bool} {ds : List Int} (hd : ∀ d ∈ ds, 0 ≤ d ∧ d ≤ 1152921504606846976) : ∀ p ∈ N.lay h ds, 0 ≤ p.mo ∧ p.mo ≤ 1152921504606846976 := fun p hp => by
  rcases List.mem_append.1 hp with hp | hp
  · obtain ⟨t, ht, rfl⟩ := List.mem_map.1 hp
    have := hN.cap ht h
    exact ⟨this.1, by show t.cap h ≤ _; omega⟩
  · obtain ⟨x, hx, rfl⟩ := List.mem_map.1 hp
    have : x.2 ∈ ds := by
      obtain ⟨i, hi⟩ := List.mem_iff_getElem?.1 hx
      exact List.mem_of_getElem? (List.getElem?_zip_eq_some.1 hi).2
    exact hd x.2 this
theorem lay_zero {N : Net} (hN : N.Ok) {h : Bool} {ds : List Int} : cut (fun v => decide (v = 0)) (N.lay h ds) ≤ 60000000000000 := by
  have hA : N.A1 fun v => decide (v = 0) := ⟨⟨by simp, by have := hN.n1; simp; omega⟩, fun c hc => by have := hN.ck c hc; simp; omega⟩
  rw [N.cut_lay h ds hA.1.2, wt_a1 hA]
  exact hN.out_le h _
theorem info_arc : (a4 (cp 0 (0, 0))).length = 4 := rfl
theorem chest_part (N : Net) (k : Nat) {c : Nat} (hc : N.ch[k]? = some c) (M : Int) (T : List Pi) : T ++ ((N.ch.take (k + 1)).map fun x => cp N.n (x, M)) = (T ++ ((N.ch.take k).map fun x => cp N.n (x, M))) ++ [cp N.n (c, M)] := by
  rw [List.take_add_one, hc]
  simp
theorem lay_rep (N : Net) (h : Bool) (M : Int) : N.lay h (List.replicate N.ch.length M) = N.tr.map (tp h) ++ N.ch.map fun x => cp N.n (x, M) := by
  unfold Net.lay
  rw [zip_rep, List.map_map]
  rfl
attribute [local go_sem ↓] Go.wp_at_zero Go.wp_at_succ
set_option maxHeartbeats 8000000 in
set_option maxRecDepth 100000 in
theorem greatest_any (N : Net) (hN : N.Ok) (A B : Option Addr) (ca cb : Nat) (hi : Bool) (w : World) (hR : RdNet w A B N) :
    Calls Try.prog 30 #[netV N A B ca cb, .bool hi] w fun e w' => ∃ d, e = .returned (.int .i64 d) ∧ Gr N hi d ∧ Kp No w w' := by
  obtain ⟨i0, hi0, hz0, hz1, hz2⟩ := info_parts info93
  have ht1 := hN.t1
  have hc1 := hN.c1
  have hn1 := hN.n1
  have hn2 := hN.n2
  have HA := Lib.hid (fun W hR => arcs_any N hN A B ca cb hi W hR)
  have HN := Lib.hid hN
  have HR := Lib.hid hR
  clear hN hR
  unfold netV at HA
  unfold netV
  go_enter Try.func30, Try.ntmps30
  go_wp2_with fail
  have K0 := Lib.hid (Kp.alloc No w (.cells #[.int .i64 N.n, .slice A N.tr.length ca, .slice B N.ch.length cb] 25))
  refine (HA.out _ (HR.out.no K0.out)).mono ?_
  rintro e w1 ⟨v1, rfl, hown, hk1⟩
  have B0 := Lib.hid (hk1.heap (heap_alloc_new w (.cells #[.int .i64 N.n, .slice A N.tr.length ca, .slice B N.ch.length cb] 25)) (fun h => h))
  have K1 := Lib.hid (K0.out.tr hk1)
  have hz1' := hk1.size
  have HO1 := Lib.hid hown
  simp at hz1' HO1
  clear hown hk1
  go_wp2_with fail
  go_loopw [5, 6] (fun v i wr => ∃ k : Nat, k ≤ N.ch.length ∧ i = .int .i64 k ∧ wr.ownsRow (w.heap.size + 1) 93 4 v (N.tr.length + k) ((N.tr.map (tp hi) ++ ((N.ch.take k).map fun x => cp N.n (x, 1152921504606846976))).flatMap a4) ∧ Kp (fun k => w.heap.size + 1 ≤ k) w1 wr) (fun _ i _ => N.ch.length - (intOf i).toNat)
  case atStart => exact ⟨0, by omega, rfl, by simpa using HO1.out, Kp.refl _ _⟩
  case round =>
    obtain ⟨k, hk, rfl, hown, hkp⟩ := hrel
    have hn0 : ¬ w.heap.size + 1 ≤ w.heap.size := by omega
    have BK := Lib.hid (hkp.heap B0.out hn0)
    obtain ⟨x0, x1, x2⟩ := box3 BK.out
    have hbs := (Array.getElem?_eq_some_iff.1 BK.out).1
    have HK := Lib.hid hkp
    have HO := Lib.hid hown
    have hwz := hkp.size
    have KN := Lib.hid (show Kp No w wr from K1.out.trans hkp fun k hk h => by omega)
    obtain ⟨av, cv, rfl, _, _, _⟩ := own_form hown
    clear hkp hown
    by_cases hlt : (k : Int) < N.ch.length
    · obtain ⟨c, hc⟩ : ∃ c, N.ch[k]? = some c := ⟨_, List.getElem?_eq_getElem (by omega)⟩
      obtain ⟨bB, oB, rfl, hbB0, y00⟩ := HR.out.chest hc
      have y0 := KN.out.cell y00 (fun h => h)
      have hbB : bB < wr.heap.size := Nat.lt_of_lt_of_le hbB0 KN.out.size
      have hnB : ¬ w.heap.size + 1 ≤ bB := by omega
      have HT := Lib.hid (chest_part N k hc 1152921504606846976 (N.tr.map (tp hi)))
      have HLN := Lib.hid (show (a4 (cp N.n (c, 1152921504606846976))).length = 1 * 4 from rfl)
      have HNO := Lib.hid (show ∀ b : Nat, (some (⟨b, 0, none⟩ : Addr) = none → (1 : Nat) = 0 ∧ (1 : Nat) = 0) from fun b h => by cases h)
      have h63 : N.tr.length + k + 1 ≤ maxLen := by unfold maxLen; omega
      have hbytes : (N.tr.length + k + 1) * 32 ≤ 140737488355328 := by omega
      clear hc
      go_wp2_with fail
      go_region_held3 (fun w' => w'.cell? ⟨w.heap.size, 0, none⟩ = some (.int .i64 N.n) ∧ w'.cell? ⟨w.heap.size, 2, none⟩ = some (.slice (some ⟨bB, oB, none⟩) N.ch.length cb) ∧ w'.cell? ⟨bB, oB + k, none⟩ = some (.int .i64 (c : Int))) (first | go_keep | (exact ⟨KG.cell x0 hn0, KG.cell x2 hn0, KG.cell y0 hnB⟩))
        ((first | (refine stepS_append (by rfl) _ _ 90 (by rfl) (w.heap.size + 1) 93 i0 (.agg #[.int .i64 0, .int .i64 0, .int .i64 0, .int .i64 0]) 4 32 Try.underlying90 hi0 hz0 hz1 hz2 (by rfl) (by decide) (.slice av (N.tr.length + k) cv) (N.tr.length + k) ((N.tr.map (tp hi) ++ ((N.ch.take k).map fun x => cp N.n (x, 1152921504606846976))).flatMap a4) (by rfl) (own_kp HO.out ((Kp.drew No _).tr (Kp.alloc No _ _)) (fun _ _ h => h)) (some ⟨wr.heap.size, 0, none⟩) 1 1 (a4 (cp N.n (c, 1152921504606846976))) (by rfl) HLN.out (HNO.out _) (new4 wr.drew (cp N.n (c, 1152921504606846976))) (a4_one _) h63 hbytes (by simp; omega) (N.tr.length + k + 1) rfl _ (flat_snoc' _ _) ?_; intro v5 w5 hown5 hgrow hnz5; have KG : Kp (fun k => w.heap.size + 1 ≤ k) wr w5 := (Kp.drew _ _).tr ((Kp.alloc _ _ _).tr (Kp.grown hgrow fun k hk _ => (own_ge HO.out hk).1)))))
      have K5 := Lib.hid (HK.out.tr KG)
      have O5 := Lib.hid hown5
      clear hown5 hgrow hnz5
      go_wp2_with fail
      go_roundw
      case rel => exact ⟨k + 1, by omega, by go_num, by rw [HT.out]; exact O5.out, K5.out⟩
      case measure => simp [intOf]; omega
    · obtain rfl : k = N.ch.length := by omega
      have HLV := Lib.hid (show ArcsV wr (w.heap.size + 1) (.slice av (N.tr.length + N.ch.length) cv) (N.tr.length + N.ch.length) (N.lay hi (List.replicate N.ch.length 1152921504606846976)) by
        rw [lay_rep]
        have := HO.out
        rw [List.take_length] at this
        exact ArcsV.of_own this)
      have HP := Lib.hid (rpush_all (N.lay hi (List.replicate N.ch.length 1152921504606846976)) (w.heap.size + 1) (N.tr.length + N.ch.length) (N.n + 1) 0 N.n (.slice av (N.tr.length + N.ch.length) cv) 60000000000000 wr HLV.out (lay_st N hi _) (lay_in HN.out) (lay_mo HN.out fun d hd => by rw [List.eq_of_mem_replicate hd]; omega) lay_fl (lay_zero HN.out) (by omega) (by omega) (by omega) (by omega) (by omega) (by omega))
      go_wp2_with fail
      refine HP.out.mono ?_
      rintro e w3 ⟨L', d, rfl, _, hpu, hd0, ⟨b, m, hl, hc, hn⟩, hk3⟩
      have HG := Lib.hid (show Gr N hi d from by
        obtain ⟨h4, h5⟩ := push_free HN.out (M := 1152921504606846976) (by omega) hpu hl hc hn
        exact ⟨_, h4, h5⟩)
      have K3 := Lib.hid (show Kp No w w3 from KN.out.trans hk3 fun k hk h => by omega)
      clear hpu hl hc hn hk3
      go_wp2_with fail
      go_ret
      exact ⟨d, rfl, HG.out, K3.out⟩
end Go.Proofs.Ytjjecadfcndkaaa
