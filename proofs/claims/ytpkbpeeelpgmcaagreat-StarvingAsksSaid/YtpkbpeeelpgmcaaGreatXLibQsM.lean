/- Chapter 14: the walk of the reference's arcs. · Chapter 14: the walks of the reference's greatest and Greatest. · A slice of elements of several cells that begins anywhere in a block of the call's own: appended to. No program in sight. -/
import Derived.Maps.AppendAt
import Derived.ArgAppend
import Derived.Deep.RegionLaw
import Derived.Test.YtpkbpeeelpgmcaaGreatXNwRps
import Derived.Test.YtpkbpeeelpgmcaaGreatXNwDem
import Derived.Test.YtpkbpeeelpgmcaaGreatXLibRowM
namespace Go.Proofs.YtpkbpeeelpgmcaaGreat
open Go.RowKit Go.Kq Go.Flow

theorem info93 : (Tryz.prog.info? 127).map (fun i => (i.zero, i.size, i.bytes)) = some (some (.agg #[.int .i64 0, .int .i64 0, .int .i64 0, .int .i64 0]), 4, 32) := by kernel_rfl
theorem new4 (w : World) (p : Pi) : ∀ ad : Addr, some (⟨w.heap.size, 0, none⟩ : Addr) = some ad → ∀ j u, (a4 p)[j]? = some u → (w.alloc (.cells #[.int .i64 p.fr, .int .i64 p.to, .int .i64 p.mo, .int .i64 p.fl] 127)).cell? (ad.add j) = some u := by
  intro ad had j u hj
  cases had
  unfold a4 at hj
  rw [add_at, Nat.zero_add]
  match j, hj with
  | 0, hj => simp at hj; subst hj; go_simp
  | 1, hj => simp at hj; subst hj; go_simp
  | 2, hj => simp at hj; subst hj; go_simp
  | 3, hj => simp at hj; subst hj; go_simp
theorem a4_one (p : Pi) : ∀ u ∈ a4 p, u.oneCell' = true := by
  intro u hu
  simp only [a4, List.mem_cons, List.not_mem_nil, or_false] at hu
  rcases hu with rfl | rfl | rfl | rfl <;> rfl
theorem flat_snoc' {α : Type} {f : α → List Value} (vs : List α) (v : α) : vs.flatMap f ++ f v = (vs ++ [v]).flatMap f := by simp
attribute [local go_sem ↓] Go.wp_at_zero Go.wp_at_succ
set_option maxHeartbeats 8000000 in
set_option maxRecDepth 100000 in
theorem arcs_any (N : Net) (hN : N.Ok) (A B : Option Addr) (ca cb : Nat) (hi : Bool) (w : World) (hR : RdNet w A B N) :
    Calls Tryz.prog 77 #[netV N A B ca cb, .bool hi] w fun e w' => ∃ v, e = .returned v ∧ w'.ownsRow w.heap.size 127 4 v N.tr.length ((N.tr.map (tp hi)).flatMap a4) ∧ Kp No w w' := by
  obtain ⟨i0, hi0, hz0, hz1, hz2⟩ := info_parts info93
  have ht1 := hN.t1
  have HN := Lib.hid hN
  have HR := Lib.hid hR
  clear hN hR
  unfold netV
  go_enter Tryz.func77, Tryz.ntmps77
  go_wp2_with fail
  have B0 := Lib.hid (heap_alloc_new w (.cells #[.int .i64 N.n, .slice A N.tr.length ca, .slice B N.ch.length cb] 25))
  have K0 := Lib.hid (Kp.alloc No w (.cells #[.int .i64 N.n, .slice A N.tr.length ca, .slice B N.ch.length cb] 25))
  go_loopw [5, 6] (fun v i wr => ∃ k : Nat, k ≤ N.tr.length ∧ i = .int .i64 k ∧ wr.ownsRow (w.heap.size + 1) 127 4 v k (((N.tr.take k).map (tp hi)).flatMap a4) ∧ Kp No (w.alloc (.cells #[.int .i64 N.n, .slice A N.tr.length ca, .slice B N.ch.length cb] 25)) wr) (fun _ i _ => N.tr.length - (intOf i).toNat)
  case atStart => exact ⟨0, by omega, rfl, ⟨by simp, .inl ⟨rfl, rfl⟩⟩, Kp.refl _ _⟩
  case round =>
    obtain ⟨k, hk, rfl, hown, hkp⟩ := hrel
    obtain ⟨x0, x1, x2⟩ := box3 (hkp.heap B0.out (fun h => h))
    have hbs := (Array.getElem?_eq_some_iff.1 (hkp.heap B0.out (fun h => h))).1
    have HK := Lib.hid hkp
    have HO := Lib.hid hown
    obtain ⟨av, cv, rfl, _, _, _⟩ := own_form hown
    clear hkp hown
    by_cases hlt : (k : Int) < N.tr.length
    · obtain ⟨t, ht⟩ : ∃ t, N.tr[k]? = some t := ⟨_, List.getElem?_eq_getElem (by omega)⟩
      obtain ⟨bA, oA, rfl, hbA, t0, t1, t2, t3⟩ := (HR.out.no (K0.out.tr HK.out)).trunk ht
      have hn0 : ¬ w.heap.size + 1 ≤ w.heap.size := by omega
      have hnA : ¬ w.heap.size + 1 ≤ bA := by
        obtain ⟨b0, o0, e0, hb0, _⟩ := HR.out.trunk ht
        cases e0
        omega
      have hKs := K0.out.size
      have hKk := HK.out.size
      have hwz : w.heap.size + 1 ≤ wr.heap.size := by simp at hKk; omega
      have CAP := Lib.hid (cap_any t hi)
      have HT := Lib.hid (take_map_snoc (tp hi) N.tr k t ht)
      have HLN := Lib.hid (show (a4 (tp hi t)).length = 1 * 4 from rfl)
      have HNONE : ∀ b : Nat, (some (⟨b, 0, none⟩ : Addr) = none → (1 : Nat) = 0 ∧ (1 : Nat) = 0) := fun b h => by cases h
      have HNO := Lib.hid HNONE
      have h63 : k + 1 ≤ maxLen := by unfold maxLen; omega
      have hbytes : (k + 1) * 32 ≤ 140737488355328 := by omega
      clear ht HNONE
      go_wp2_with fail
      go_region_held3 (fun w' => w'.cell? ⟨w.heap.size, 1, none⟩ = some (.slice (some ⟨bA, oA, none⟩) N.tr.length ca) ∧ w'.cell? ⟨bA, oA + k * 4, none⟩ = some (.int .i64 t.fr) ∧ w'.cell? ⟨bA, oA + k * 4 + 1, none⟩ = some (.int .i64 t.to) ∧ w'.cell? ⟨bA, oA + k * 4 + 2, none⟩ = some (.int .i64 t.lo) ∧ w'.cell? ⟨bA, oA + k * 4 + 3, none⟩ = some (.int .i64 t.hi)) (first | exact ⟨c0, c1, c2, c3, c4⟩ | go_keep | (exact ⟨KG.cell c0 hn0, KG.cell c1 hnA, KG.cell c2 hnA, KG.cell c3 hnA, KG.cell c4 hnA⟩))
        ((first | (refine stepS_append (by rfl) _ _ 124 (by rfl) (w.heap.size + 1) 127 i0 (.agg #[.int .i64 0, .int .i64 0, .int .i64 0, .int .i64 0]) 4 32 Tryz.underlying124 hi0 hz0 hz1 hz2 (by rfl) (by decide) (.slice av k cv) k (((N.tr.take k).map (tp hi)).flatMap a4) (by rfl) (own_kp O2.out (Kp.alloc No _ _) (fun _ _ h => h)) (some ⟨w2.heap.size, 0, none⟩) 1 1 (a4 (tp hi t)) (by rfl) HLN.out (HNO.out _) (new4 w2 (tp hi t)) (a4_one _) h63 hbytes (by simp; omega) (k + 1) rfl _ (flat_snoc' _ _) ?_; intro v5 w5 hown5 hgrow hnz5; have KG : Kp (fun k => w.heap.size + 1 ≤ k) w2 w5 := (Kp.alloc _ _ _).tr (Kp.grown hgrow fun k hk _ => (own_ge O2.out hk).1)) | (go_at_call 107; refine (CAP.out _).mono ?_; rintro e w2 ⟨rfl, hk2⟩; have c0 := hk2.cell (a := ⟨w.heap.size, 1, none⟩) (v := .slice (some ⟨bA, oA, none⟩) N.tr.length ca) (by go_simp) (fun h => h); have c1 := hk2.cell (a := ⟨bA, oA + k * 4, none⟩) (v := .int .i64 t.fr) (by go_simp) (fun h => h); have c2 := hk2.cell (a := ⟨bA, oA + k * 4 + 1, none⟩) (v := .int .i64 t.to) (by go_simp) (fun h => h); have c3 := hk2.cell (a := ⟨bA, oA + k * 4 + 2, none⟩) (v := .int .i64 t.lo) (by go_simp) (fun h => h); have c4 := hk2.cell (a := ⟨bA, oA + k * 4 + 3, none⟩) (v := .int .i64 t.hi) (by go_simp) (fun h => h); have K2 := Lib.hid (HK.out.tr ((Kp.drew No _).tr hk2)); have hz2' := hk2.size; simp at hz2'; have O2 := Lib.hid (own_kp HO.out ((Kp.drew No _).tr hk2) (fun _ _ h => h)); clear hk2)))
      have K5 := Lib.hid (K2.out.trans KG fun k hk h => by simp at hk; omega)
      have O5 := Lib.hid hown5
      clear hown5 hgrow hnz5
      go_wp2_with fail
      go_roundw
      case rel => exact ⟨k + 1, by omega, by go_num, by rw [HT.out]; exact O5.out, K5.out⟩
      case measure => simp [intOf]; omega
    · obtain rfl : k = N.tr.length := by omega
      have HOF := Lib.hid (show wr.ownsRow (w.heap.size + 1) 127 4 (.slice av N.tr.length cv) N.tr.length ((N.tr.map (tp hi)).flatMap a4) by have := HO.out; rwa [List.take_length] at this)
      go_wp2_with fail
      refine bodyPost_ret (v := .slice av N.tr.length cv) (by simp [results, Tryz.results77, go_sem]) rfl ⟨_, rfl, own_mono HOF.out (by omega), K0.out.tr HK.out⟩
end Go.Proofs.YtpkbpeeelpgmcaaGreat

namespace Go.Proofs.YtpkbpeeelpgmcaaGreat
open Go.RowKit Go.Kq Go.Flow

/-- Arcs in a slice, none too. -/
def ArcsV (w : World) (base : Nat) (v : Value) (m : Nat) (L : List Pi) : Prop :=
  (m = 0 ∧ L = [] ∧ ∃ A c, v = .slice A 0 c) ∨ ∃ g o c, v = .slice (some ⟨g, o, none⟩) m c ∧ Arcs w base g o m L
theorem ArcsV.of_own {w : World} {base : Nat} {v : Value} {m : Nat} {L : List Pi} (h : w.ownsRow base 127 4 v m (L.flatMap a4)) : ArcsV w base v m L := by
  have hl := own_count a4_len h (by decide)
  by_cases hm : m = 0
  · subst hm
    obtain ⟨a, c, rfl, _⟩ := own_form h
    exact .inl ⟨rfl, List.length_eq_zero_iff.1 hl, a, c, rfl⟩
  · obtain ⟨g, c, rfl⟩ := own_posn h (by omega)
    refine .inr ⟨g, 0, c, rfl, (own_ge h (g := g) rfl).1, hl, ?_⟩
    rcases h.2 with ⟨h0, _⟩ | ⟨g', cap', cur, hv, hb, hg, h1, h2, h3, h4⟩
    · cases h0
    · cases hv
      refine ⟨cur, hg, fun j u hj => ?_⟩
      rw [← h4, List.getElem?_take] at hj
      split at hj
      · rw [Nat.zero_add]
        simpa using hj
      · cases hj
theorem ArcsV.mono {w : World} {base base' : Nat} {v : Value} {m : Nat} {L : List Pi} (h : ArcsV w base v m L) (hb : base' ≤ base) : ArcsV w base' v m L := by
  rcases h with h | ⟨g, o, c, h1, h2⟩
  · exact .inl h
  · exact .inr ⟨g, o, c, h1, Nat.le_trans hb h2.ge, h2.len, h2.row⟩
theorem ArcsV.no {w w' : World} {base : Nat} {v : Value} {m : Nat} {L : List Pi} (h : ArcsV w base v m L) (hk : Kp No w w') : ArcsV w' base v m L := by
  rcases h with h | ⟨g, o, c, h1, h2⟩
  · exact .inl h
  · exact .inr ⟨g, o, c, h1, h2.kp hk (fun h => h)⟩
/-- What push returns of arcs in a slice. -/
def PushV (w : World) (base : Nat) (v : Value) (m : Nat) (L : List Pi) (s t : Nat) (e : Ending) (w' : World) : Prop :=
  ∃ L' d, e = .returned (.int .i64 d) ∧ ArcsV w' base v m L' ∧ Pushed L L' s t d ∧ 0 ≤ d ∧ (∃ b m, Lab L' s b m ∧ Clo (Rs s b) L' ∧ Rs s b t = false) ∧ Kp (fun k => base ≤ k) w w'
set_option maxRecDepth 100000 in
theorem rpush_nil (A : Option Addr) (ca n s t : Nat) (w : World) (hn : n ≤ 30) (hs : s < n) (ht : t < n) (hne : s ≠ t) :
    Calls Tryz.prog 78 #[.slice A 0 ca, .int .i64 n, .int .i64 s, .int .i64 t] w fun e w' => e = .returned (.int .i64 0) ∧ (∃ b m, Lab [] s b m ∧ Clo (Rs s b) [] ∧ Rs s b t = false) ∧ Kp No w w' := by
  have HC := Lib.hid (fun W => path_any [] A ca n s t W (Rd.nil W A) (fun p hp => by cases hp) (fun p hp => by cases hp) hn hs ht (by simp))
  have HNE := Lib.hid hne
  clear hne
  simp only [List.length_nil] at HC
  go_enter Tryz.func78, Tryz.ntmps78
  go_wp2_with fail
  go_loopw [9] (fun sv wr => sv = .int .i64 0 ∧ wr = w) (fun _ _ => 0)
  case atStart => exact ⟨rfl, rfl⟩
  case round =>
    obtain ⟨rfl, rfl⟩ := hrel
    go_wp2_with fail
    refine (HC.out _).mono ?_
    rintro e w1 ⟨hk1, ⟨b, l, v, hway, hd, hll, rfl, hown⟩ | ⟨b, mm, hlab, hclo, hno, rfl⟩⟩
    · exfalso
      cases hway with
      | nil => exact HNE.out rfl
      | cons _ _ hR _ =>
        obtain ⟨p, hp, _⟩ := hR
        simp at hp
    · have HCL := Lib.hid (show ∃ b m, Lab [] s b m ∧ Clo (Rs s b) [] ∧ Rs s b t = false from ⟨b, mm, hlab, hclo, hno⟩)
      clear hlab hclo hno
      go_wp2_with fail
      go_ret
      exact ⟨rfl, HCL.out, hk1⟩
theorem rpush_all (L : List Pi) (base m n s t : Nat) (v : Value) (M : Int) (w : World) (hA : ArcsV w base v m L) (hst : ∀ p ∈ L, p.st = false) (hb : ∀ p ∈ L, p.fr < n ∧ p.to < n ∧ p.fr ≠ p.to) (hmo : ∀ p ∈ L, 0 ≤ p.mo ∧ p.mo ≤ 1152921504606846976) (hz : ∀ p ∈ L, p.fl = 0) (hM : cut (fun v => decide (v = s)) L ≤ M) (hM2 : M ≤ 10000000000000000) (hn : n ≤ 30) (hs : s < n) (ht : t < n) (hne : s ≠ t) (hL : m ≤ 200) :
    Calls Tryz.prog 78 #[v, .int .i64 n, .int .i64 s, .int .i64 t] w fun e w' => PushV w base v m L s t e w' := by
  rcases hA with ⟨rfl, rfl, A, c, rfl⟩ | ⟨g, o, c, rfl, hA⟩
  · refine (rpush_nil A c n s t w hn hs ht hne).mono ?_
    rintro e w' ⟨rfl, hc, hk⟩
    exact ⟨[], 0, rfl, .inl ⟨rfl, rfl, A, c, rfl⟩, Pushed.refl (fun p hp => by cases hp) _ _, by omega, hc, hk.of_no⟩
  · refine (rpush_any L base g o m c n s t M w hA hst hb hmo hz hM hM2 hn hs ht hne hL).mono ?_
    rintro e w' ⟨L', d, rfl, h1, h2, h3, h4, h5⟩
    exact ⟨L', d, rfl, .inr ⟨g, o, c, rfl, h1⟩, h2, h3, h4, h5.mono fun k _ e => by have e2 : k = g := e; rw [e2]; exact hA.ge⟩
theorem lay_fl {N : Net} {h : Bool} {ds : List Int} : ∀ p ∈ N.lay h ds, p.fl = 0 := fun p hp => by
  rcases List.mem_append.1 hp with hp | hp
  · obtain ⟨t, _, rfl⟩ := List.mem_map.1 hp
    rfl
  · obtain ⟨t, _, rfl⟩ := List.mem_map.1 hp
    rfl
theorem lay_in {N : Net} (hN : N.Ok) {h : Bool} {ds : List Int} : ∀ p ∈ N.lay h ds, p.fr < N.n + 1 ∧ p.to < N.n + 1 ∧ p.fr ≠ p.to := fun p hp => by
  rcases List.mem_append.1 hp with hp | hp
  · obtain ⟨t, ht, rfl⟩ := List.mem_map.1 hp
    have := hN.tk t ht
    exact ⟨by show t.fr < _; omega, by show t.to < _; omega, this.2.2.1⟩
  · obtain ⟨x, hx, rfl⟩ := List.mem_map.1 hp
    have := hN.ck x.1 (mem_zip_fst hx)
    exact ⟨by show x.1 < _; omega, by show N.n < _; omega, by show x.1 ≠ N.n; omega⟩
theorem lay_mo {N : Net} (hN : N.Ok) {h : Bool} {ds : List Int} (hd : ∀ d ∈ ds, 0 ≤ d ∧ d ≤ 1152921504606846976) : ∀ p ∈ N.lay h ds, 0 ≤ p.mo ∧ p.mo ≤ 1152921504606846976 := fun p hp => by
  rcases List.mem_append.1 hp with hp | hp
  · obtain ⟨t, ht, rfl⟩ := List.mem_map.1 hp
    have := hN.cap ht h
    exact ⟨this.1, by show t.cap h ≤ _; omega⟩
  · obtain ⟨x, hx, rfl⟩ := List.mem_map.1 hp
    have : x.2 ∈ ds := by
      obtain ⟨i, hi⟩ := List.mem_iff_getElem?.1 hx
      exact List.mem_of_getElem? (List.getElem?_zip_eq_some.1 hi).2
    exact hd x.2 this
theorem lay_zero {N : Net} (hN : N.Ok) {h : Bool} {ds : List Int} : cut (fun v => decide (v = 0)) (N.lay h ds) ≤ 60000000000000 := by
  have hA : N.A1 fun v => decide (v = 0) := ⟨⟨by simp, by have := hN.n1; simp; omega⟩, fun c hc => by have := hN.ck c hc; simp; omega⟩
  rw [N.cut_lay h ds hA.1.2, wt_a1 hA]
  exact hN.out_le h _
theorem info_arc : (a4 (cp 0 (0, 0))).length = 4 := rfl
theorem chest_part (N : Net) (k : Nat) {c : Nat} (hc : N.ch[k]? = some c) (M : Int) (T : List Pi) : T ++ ((N.ch.take (k + 1)).map fun x => cp N.n (x, M)) = (T ++ ((N.ch.take k).map fun x => cp N.n (x, M))) ++ [cp N.n (c, M)] := by
  rw [List.take_add_one, hc]
  simp
theorem lay_rep (N : Net) (h : Bool) (M : Int) : N.lay h (List.replicate N.ch.length M) = N.tr.map (tp h) ++ N.ch.map fun x => cp N.n (x, M) := by
  unfold Net.lay
  rw [zip_rep, List.map_map]
  rfl
end Go.Proofs.YtpkbpeeelpgmcaaGreat

namespace Go.Kq
open Go.RowKit

/-- n elements of s cells each, from an offset on. -/
def Qs (w : World) (base : Nat) (e : TypeId) (s g off cap n : Nat) (xs : List Value) : Prop :=
  ∃ cur, base ≤ g ∧ w.heap[g]? = some (.cells cur e (0, 0)) ∧ xs.length = n * s ∧ n ≤ cap ∧ off + cap * s ≤ cur.size ∧ ∀ j u, xs[j]? = some u → cur[off + j]? = some u
/-- Such a slice, nil too. -/
def Qv (w : World) (base : Nat) (e : TypeId) (s : Nat) (v : Value) (n : Nat) (xs : List Value) : Prop :=
  (v = .slice none 0 0 ∧ n = 0 ∧ xs = []) ∨ ∃ g off cap, v = .slice (some ⟨g, off, none⟩) n cap ∧ Qs w base e s g off cap n xs
theorem Qv.kp {S : Nat → Prop} {w w' : World} {base : Nat} {e : TypeId} {s : Nat} {v : Value} {n : Nat} {xs : List Value} (h : Qv w base e s v n xs) (hk : Kp S w w') (hS : ∀ g, base ≤ g → ¬ S g) : Qv w' base e s v n xs := by
  rcases h with h | ⟨g, off, cap, h1, cur, h2, h3, h4⟩
  · exact .inl h
  · exact .inr ⟨g, off, cap, h1, cur, h2, hk.heap h3 (hS g h2), h4⟩
theorem Qv.form {w : World} {base : Nat} {e : TypeId} {s : Nat} {v : Value} {n : Nat} {xs : List Value} (h : Qv w base e s v n xs) : ∃ a cap, v = .slice a n cap ∧ n ≤ cap := by
  rcases h with ⟨rfl, rfl, _⟩ | ⟨g, off, cap, rfl, cur, _, _, _, h4, _⟩
  · exact ⟨none, 0, rfl, Nat.le_refl _⟩
  · exact ⟨_, cap, rfl, h4⟩
theorem Qs.of_own {w : World} {base n cap g : Nat} {e : TypeId} {s : Nat} {xs : List Value} (h : w.ownsRow base e s (.slice (some ⟨g, 0, none⟩) n cap) n xs) : Qs w base e s g 0 cap n xs := by
  rcases h.2 with ⟨h0, _⟩ | ⟨g', cap', cur, hv, hb, hg, h1, h2, h3, h4⟩
  · cases h0
  · cases hv
    refine ⟨cur, hb, hg, h.1, h1, by omega, fun j u hj => ?_⟩
    rw [← h4, List.getElem?_take] at hj
    split at hj
    · rw [Nat.zero_add]
      simpa using hj
    · cases hj
theorem Qv.of_own {w : World} {base n : Nat} {e : TypeId} {s : Nat} {v : Value} {xs : List Value} (h : w.ownsRow base e s v n xs) : Qv w base e s v n xs := by
  rcases h.2 with ⟨h0, h1⟩ | ⟨g', cap', cur, rfl, _⟩
  · have hl := h.1
    rw [h1, Nat.zero_mul] at hl
    exact .inl ⟨h0, h1, List.length_eq_zero_iff.1 hl⟩
  · exact .inr ⟨g', 0, cap', rfl, Qs.of_own h⟩
/-- The rest of a row behind its first k elements. -/
theorem Qs.drop {w : World} {base g off cap n k : Nat} {e : TypeId} {s : Nat} {xs : List Value} (h : Qs w base e s g off cap n xs) (hk : k ≤ n) : Qs w base e s g (off + k * s) (cap - k) (n - k) (xs.drop (k * s)) := by
  obtain ⟨cur, h1, h2, h3, h4, h5, h6⟩ := h
  have e1 : (cap - k) * s = cap * s - k * s := Nat.sub_mul _ _ _
  have e2 : (n - k) * s = n * s - k * s := Nat.sub_mul _ _ _
  have e3 : k * s ≤ cap * s := Nat.mul_le_mul_right _ (by omega)
  refine ⟨cur, h1, h2, by rw [List.length_drop]; omega, by omega, by omega, fun j u hj => ?_⟩
  rw [List.getElem?_drop] at hj
  rw [Nat.add_assoc]
  exact h6 _ u hj
theorem Qs.none {w : World} {base g off cap n : Nat} {e : TypeId} {s : Nat} {xs : List Value} (h : Qs w base e s g off cap n xs) : Qs w base e s g off 0 0 [] := by
  obtain ⟨cur, h1, h2, h3, h4, h5, h6⟩ := h
  exact ⟨cur, h1, h2, by simp, by omega, by simp; omega, fun j u hj => by simp at hj⟩
theorem setCells_heap {w : World} {g : Nat} {cur : Array Value} {e : TypeId} {m : Nat × Nat} (h : w.heap[g]? = some (.cells cur e m)) : ∀ (news : List Value) (o : Nat), ∃ cur', (w.setCells g o news).heap[g]? = some (.cells cur' e m) ∧ cur'.size = cur.size ∧ (∀ i, i < o → cur'[i]? = cur[i]?) ∧ (∀ j u, news[j]? = some u → o + j < cur.size → cur'[o + j]? = some u) := by
  intro news
  induction news generalizing w cur with
  | nil => exact fun o => ⟨cur, by simpa [World.setCells] using h, rfl, fun _ _ => rfl, fun j u hj => by simp at hj⟩
  | cons x news ih =>
    intro o
    have h1 : (w.setCell ⟨g, o, none⟩ x).heap[g]? = some (.cells (cur.setIfInBounds o x) e m) := by simp [World.setCell, Array.getElem?_modify, h]
    obtain ⟨cur', g1, g2, g3, g4⟩ := ih h1 (o + 1)
    refine ⟨cur', by simpa [World.setCells] using g1, by simpa using g2, fun i hi => ?_, fun j u hj hlt => ?_⟩
    · rw [g3 i (by omega), Array.getElem?_setIfInBounds_ne (by omega)]
    · match j, hj with
      | 0, hj =>
        simp at hj
        subst hj
        rw [Nat.add_zero, g3 o (by omega), Array.getElem?_setIfInBounds_self_of_lt (by omega)]
      | j + 1, hj =>
        have := g4 j u (by simpa using hj) (by simp; omega)
        rw [show o + (j + 1) = o + 1 + j by omega]
        exact this
theorem kp_setCells (w : World) (g : Nat) : ∀ (news : List Value) (o : Nat), Kp (One g) w (w.setCells g o news) := by
  intro news
  induction news generalizing w with
  | nil => exact fun o => by simpa [World.setCells] using Kp.refl (One g) w
  | cons x news ih =>
    intro o
    have h := (kp_setOne w g o x).tr (ih (w.setCell ⟨g, o, none⟩ x) (o + 1))
    simpa [World.setCells] using h
section
variable {P : Program} (w : World)
theorem run_append_qv (base : Nat) (t ty e : TypeId) (i : TypeInfo) (z : Value) (s bytes : Nat) (ht : P.underlying t = some (.slice e)) (hi : P.info? e = some i) (hz : i.zero = some z)
    (hsize : i.size = s) (hby : i.bytes = bytes) (hzs : z.cells.size = s) (hs : 0 < s) (v : Value) (n : Nat) (xs : List Value) (hq : Qv w base e s v n xs)
    (a : Addr) (c : Nat) (news : List Value) (hl : news.length = 1 * s) (hnews : ∀ j u, news[j]? = some u → w.cell? (a.add j) = some u) (h1 : ∀ u ∈ news, u.oneCell' = true) (h63 : n + 1 ≤ maxLen) (hbytes : (n + 1) * bytes ≤ 140737488355328) (hbase : base ≤ w.heap.size) :
    ∃ v' w', (Builtin.append_ #[t, t] ty #[v, .slice (some a) 1 c]).run P w = .ok v' w' ∧ Qv w' base e s v' (n + 1) (xs ++ news) ∧ Kp (fun k => base ≤ k) w w' := by
  rcases hq with ⟨rfl, rfl, rfl⟩ | ⟨g, off, cap, rfl, cur, q1, q2, q3, q4, q5, q6⟩
  · obtain ⟨v', w', hr, h2, h3, _⟩ := run_append_own_at (P := P) w base t ty e i z s bytes ht hi hz hsize hby hzs hs (.slice none 0 0) 0 [] ⟨by simp, .inl ⟨rfl, rfl⟩⟩ a 1 c news hl hnews h1 h63 hbytes hbase
    exact ⟨v', w', hr, Qv.of_own h2, Kp.grown h3 fun k hk _ => by simp [Value.ownBlock] at hk⟩
  · have hes : (n + 1) * s = n * s + s := by rw [Nat.add_mul, Nat.one_mul]
    by_cases hroom : n + 1 ≤ cap
    · have hcs : (n + 1) * s ≤ cap * s := Nat.mul_le_mul_right _ hroom
      have hc : ∀ j, j < news.length → (w.cell? ⟨g, off + n * i.size + j, none⟩).isSome = true := fun j hj => by
        rw [cell_of_row w g _ cur e (0, 0) q2, hsize, Array.getElem?_eq_getElem (by omega)]
        rfl
      have hf : ∀ j, j < news.length → w.frozen? ⟨g, off + n * i.size + j, none⟩ = false := fun j _ => by simp [World.frozen?, q2]
      have hr := run_append_room_cells (P := P) w t ty e i ht hi g off n cap a 1 c news (by rw [hl, hsize]) hnews h1 hroom hc hf
      rw [hsize] at hr
      obtain ⟨cur', g1, g2, g3, g4⟩ := setCells_heap q2 news (off + n * s)
      refine ⟨_, _, hr, .inr ⟨g, off, cap, rfl, cur', q1, g1, by rw [List.length_append, q3, hl]; omega, hroom, by omega, fun j u hj => ?_⟩, (kp_setCells w g news _).mono fun k _ e => by have e2 : k = g := e; omega⟩
      rw [List.getElem?_append] at hj
      split at hj
      · rename_i hlt
        rw [g3 _ (by omega)]
        exact q6 j u hj
      · rename_i hge
        have hjn := (List.getElem?_eq_some_iff.1 hj).1
        have := g4 (j - xs.length) u hj (by omega)
        rw [show off + n * s + (j - xs.length) = off + j by omega] at this
        exact this
    · obtain ⟨v', w', hr, hown, hgr⟩ := run_append_arg_grows (P := P) w t ty e i z s bytes ht hi hz hsize hby hzs hs ⟨g, off, none⟩ n cap xs q3 (fun j u hj => by
        have : (⟨g, off, none⟩ : Addr).add j = ⟨g, off + j, none⟩ := by unfold Addr.add; split <;> simp_all
        rw [this, cell_of_row w g _ cur e (0, 0) q2]
        exact q6 j u hj) a 1 c news hl hnews (by omega) h63 hbytes
      exact ⟨v', w', hr, Qv.of_own (own_mono hown hbase), Kp.grown hgr fun k hk _ => by simp at hk⟩
theorem stepS_append_qv {ops : Array Oper} {o : Oper} {a : Act} {K : Act → World → Prop} {Q : Exit → Act → World → Prop} {E : Prop} (hgd : o.guard = none) (sx x : Operand) (t : TypeId)
    (ho : o.op = .call { callee := .builtin .append, args := #[sx, x], argTypes := #[t, t] })
    (base : Nat) (e : TypeId) (i : TypeInfo) (z : Value) (s bytes : Nat) (ht : P.underlying t = some (.slice e)) (hi : P.info? e = some i) (hz : i.zero = some z)
    (hsize : i.size = s) (hby : i.bytes = bytes) (hzs : z.cells.size = s) (hs : 0 < s) (v : Value) (n : Nat) (xs : List Value) (hv : a.eval sx = v) (hq : Qv w base e s v n xs)
    (ad : Addr) (c : Nat) (news : List Value) (hx : a.eval x = .slice (some ad) 1 c) (hl : news.length = 1 * s) (hnews : ∀ j u, news[j]? = some u → w.cell? (ad.add j) = some u) (h1 : ∀ u ∈ news, u.oneCell' = true) (h63 : n + 1 ≤ maxLen) (hbytes : (n + 1) * bytes ≤ 140737488355328) (hbase : base ≤ w.heap.size) (nm : Nat) (hnm : n + 1 = nm) (ys : List Value) (hys : xs ++ news = ys)
    (h : ∀ v' w', Qv w' base e s v' nm ys → Kp (fun k => base ≤ k) w w' → K (a.put o.dst v') w') :
    if Region.wanted o (yielded ops a.tmps) = true then Oper.wp P o a w K Q else E := by
  subst hnm hys
  have hw : Region.wanted o (yielded ops a.tmps) = true := by simp [Region.wanted, hgd]
  rw [if_pos hw]
  obtain ⟨v', w', hr, h2, h3⟩ := run_append_qv (P := P) w base t o.type e i z s bytes ht hi hz hsize hby hzs hs v n xs hq ad c news hl hnews h1 h63 hbytes hbase
  unfold Oper.wp execOp
  simp only [ho, resolve, invoke, builtin, Sem.run_bind, Sem.run_pure, Result.andThen_ok, List.map_toArray, List.map_cons, List.map_nil, hv, hx, hr]
  exact h v' w' h2 h3
theorem wpL_append_qv {ops : Array Oper} {rest : List Oper} {o : Oper} {a : Act} {Q : Exit → Act → World → Prop} (hgd : o.guard = none) (sx x : Operand) (t : TypeId)
    (ho : o.op = .call { callee := .builtin .append, args := #[sx, x], argTypes := #[t, t] })
    (base : Nat) (e : TypeId) (i : TypeInfo) (z : Value) (s bytes : Nat) (ht : P.underlying t = some (.slice e)) (hi : P.info? e = some i) (hz : i.zero = some z)
    (hsize : i.size = s) (hby : i.bytes = bytes) (hzs : z.cells.size = s) (hs : 0 < s) (v : Value) (n : Nat) (xs : List Value) (hv : a.eval sx = v) (hq : Qv w base e s v n xs)
    (ad : Addr) (c : Nat) (news : List Value) (hx : a.eval x = .slice (some ad) 1 c) (hl : news.length = 1 * s) (hnews : ∀ j u, news[j]? = some u → w.cell? (ad.add j) = some u) (h1 : ∀ u ∈ news, u.oneCell' = true) (h63 : n + 1 ≤ maxLen) (hbytes : (n + 1) * bytes ≤ 140737488355328) (hbase : base ≤ w.heap.size)
    (h : ∀ v' w', Qv w' base e s v' (n + 1) (xs ++ news) → Kp (fun k => base ≤ k) w w' → wpList P ops Q rest (a.put o.dst v') w') :
    wpList P ops Q (o :: rest) a w := by
  refine wpList_plain hgd fun K hK => ?_
  obtain ⟨v', w', hr, h2, h3⟩ := run_append_qv (P := P) w base t o.type e i z s bytes ht hi hz hsize hby hzs hs v n xs hq ad c news hl hnews h1 h63 hbytes hbase
  unfold Oper.wp execOp
  simp only [ho, resolve, invoke, builtin, Sem.run_bind, Sem.run_pure, Result.andThen_ok, List.map_toArray, List.map_cons, List.map_nil, hv, hx, hr]
  exact hK _ _ (h v' w' h2 h3)
end
end Go.Kq
