/- Chapter 33: the sorted keys of a balance, and what is above 0: walks. -/
import Derived.Deep.RegionHeld3
import Derived.Test.YtfflhlmnfhfcgaaXSeq
import Derived.Test.YtfflhlmnfhfcgaaXAbvPM
import Derived.Test.YtfflhlmnfhfcgaaXLibAppSM
import Derived.Test.YtfflhlmnfhfcgaaXLibSortM
import Derived.Test.YtfflhlmnfhfcgaaXRfAdd
namespace Go.Proofs.Ytfflhlmnfhfcgaa
open Go.RowKit Go.Kq Go.Sort

theorem lt_of (x y : Key) : ltOf cmpK x y = decide (klt x y) := by
  unfold ltOf
  rw [decide_eq_decide]
  exact cmpK_neg x y
theorem swoK : SWO (ltOf cmpK) where
  irrefl x := by rw [lt_of, decide_eq_false_iff_not]; exact klt_irr x
  trans x y z h1 h2 := by rw [lt_of, decide_eq_true_eq] at *; exact klt_trans h1 h2
  ntrans x y z h1 h2 := by
    rw [lt_of, decide_eq_false_iff_not] at *
    unfold klt at *
    omega
theorem kc_len (x : Key) : (kcells x).length = 3 := rfl
theorem cmpLays (blk off size : Nat) (w : World) : CmpLays Try.prog 59 #[] kcells 3 cmpK blk off size w := fun _ _ _ _ x y => compare_any x y _
theorem klt_pair {l : List Key} (hn : l.Nodup) (h : l.Pairwise fun x y => ltOf cmpK y x = false) : l.Pairwise klt := by
  have hn' : l.Pairwise fun a b => a ≠ b := hn
  refine (h.and hn').imp fun {a b} ⟨h1, h2⟩ => ?_
  rw [lt_of, decide_eq_false_iff_not] at h1
  exact Classical.byContradiction fun h3 => h2 (klt_total h3 h1)

set_option maxHeartbeats 1000000 in
theorem collect_any (Bm b : Nat) (E : List (Key × Int)) (w : World) (hBm : Bm < w.heap.size) (hm : w.cell? ⟨Bm, 0, none⟩ = some (.map (some b))) (hmap : MapAt w b ek (Value.int .i64) E) (hE : E.length ≤ 1000) :
    Calls Try.prog 69 #[.func (.func 71) #[] #[.pointer (some ⟨Bm, 0, none⟩)]] w fun e w' => ∃ (v : Value) (ks : List Key), e = .returned v ∧ ks.Perm (keys E) ∧ w'.ownsRow w.heap.size 92 3 v ks.length (ks.flatMap kcells) ∧ Below w.heap.size w w' := by
  have hc := callsIn_wide.1 (appendSeq_in 6 (Nat.le_refl _) 71 #[.pointer (some ⟨Bm, 0, none⟩)] (enters_of Try.func71 (by kernel_rfl) rfl) (fun ss => ss.Perm (keys E)) (fun _ => True) E.length (by omega) w (keys_stops 5 (by omega) Bm b E w hBm hm hmap))
  clear hm hmap
  go_enter Try.func69, Try.ntmps69
  go_wp2_with (go_at_call 85; refine hc.mono ?_; rintro e w' ⟨v, ks, rfl, hp, ho, hb⟩)
  go_ret
  exact ⟨v, ks, rfl, hp, ho, hb⟩

set_option maxHeartbeats 1000000 in
theorem sorted_any (Bm b : Nat) (E : List (Key × Int)) (w : World) (hBm : Bm < w.heap.size) (hm : w.cell? ⟨Bm, 0, none⟩ = some (.map (some b))) (hmap : MapAt w b ek (Value.int .i64) E) (hE : E.length ≤ 1000) :
    Calls Try.prog 57 #[.func (.func 71) #[] #[.pointer (some ⟨Bm, 0, none⟩)], .func (.func 59) #[] #[]] w fun e w' => ∃ (v : Value) (ks : List Key), e = .returned v ∧ ks.Perm (keys E) ∧ ks.Pairwise klt ∧ w'.ownsRow w.heap.size 92 3 v ks.length (ks.flatMap kcells) ∧ Kp No w w' := by
  have hnd := hmap.nodup
  have hc := collect_any Bm b E w hBm hm hmap hE
  have HN := Lib.hid hnd
  clear hm hmap hnd
  go_enter Try.func57, Try.ntmps57
  go_wp2_with fail
  refine hc.mono ?_
  rintro e w1 ⟨v, ks, rfl, hp, ho, hb⟩
  obtain ⟨A, cap, rfl, hcap, hml, hA⟩ := own_form ho
  have hlen : ks.length ≤ 1000 := by
    have := hp.length_eq
    simp [keys] at this
    omega
  have HP := Lib.hid hp
  have HO := Lib.hid ho
  have HB := Lib.hid (Kp.below (S := No) hb)
  have HA := Lib.hid hA
  clear hp ho hb hc hA
  by_cases h0 : ks.length = 0
  · have hks : ks = [] := List.length_eq_zero_iff.1 h0
    subst hks
    have hs := AnyF.slices_SortFunc_none { sortKey with } A cap (.func (.func 59) #[] #[]) w1
    change Calls Try.prog 70 _ _ _ at hs
    clear h0
    go_wp2_with fail
    refine hs.mono ?_
    rintro e w' ⟨rfl, rfl⟩
    go_wp2_with fail
    go_ret
    exact ⟨_, [], rfl, HP.out, List.Pairwise.nil, HO.out, HB.out⟩
  · obtain ⟨g, rfl⟩ := HA.out (by omega)
    have hgl := (own_ge HO.out (g := g) rfl)
    have hs := AnyQ.slices_SortFunc sortKey 3 Try.isAgg92 Try.sizeOf92 kcells kc_len (fun x v hv => by simp [kcells] at hv; rcases hv with rfl | rfl | rfl <;> rfl) cmpK swoK 59 #[] g 0 cap ks.toArray w1 (enters_of Try.func59 (by kernel_rfl) rfl) (cmpLays g 0 _ w1) (own_holdsK kc_len HO.out) hgl.2 (by simp; omega)
    change Calls Try.prog 70 _ _ _ at hs
    simp only [List.size_toArray] at hs
    clear h0
    go_wp2_with fail
    refine hs.mono ?_
    rintro e w' ⟨rfl, d', m, os, hpi, hsi, rfl⟩
    have hP2 := perm_of_permIn (l := ks) (by simpa using hpi)
    have hsz : d'.size = ks.length := by have := hpi.1; simpa using this
    have hpw := pairwise_of_sortedIn hsz hsi
    obtain ⟨l'⟩ := d'
    simp only [List.size_toArray] at hsz
    have ho2 := own_sortedK (ts := l') (m := m) (os := os) kc_len HO.out hsz
    have hk2 := kp_sortedK (w := w1) (g := g) (m := m) (os := os) kc_len l'
    have HO2 := Lib.hid ho2
    have HK2 := Lib.hid (HB.out.trans hk2 (fun k hk h => absurd hk (by unfold Kq.One at h; omega)) : Kp No w _)
    have HP2 := Lib.hid (show l'.Perm ks from hP2)
    have HPW := Lib.hid (show l'.Pairwise fun x y => ltOf cmpK y x = false from hpw)
    clear ho2 hk2 hpi hsi hP2 hpw hs
    generalize sortWorldK kcells 3 w1 g 0 m l'.toArray os = w3 at *
    go_wp2_with fail
    go_ret
    have hnd : l'.Nodup := (HP2.out.trans HP.out).nodup_iff.2 HN.out
    exact ⟨_, l', rfl, HP2.out.trans HP.out, klt_pair hnd HPW.out, by rw [hsz]; exact HO2.out, HK2.out⟩

theorem flat_map4 : ∀ vs : List Vc, flat vs = vs.flatMap Vc.cells4
  | [] => rfl
  | v :: vs => by rw [flat, flat_map4 vs]; rfl
set_option maxHeartbeats 4000000 in
set_option maxRecDepth 100000 in
theorem above_any (b : Nat) (E : List (Key × Int)) (w : World) (hmap : MapAt w b ek (Value.int .i64) E) (hE : E.length ≤ 1000) :
    Calls Try.prog 38 #[.map (some b)] w fun e w' => ∃ (v : Value) (ks : List Key), e = .returned v ∧ ks.Perm (keys E) ∧ ks.Pairwise klt ∧ w'.ownsRow w.heap.size 59 4 v (abv (bal E) ks).length (flat (abv (bal E) ks)) ∧ Kp No w w' := by
  obtain ⟨i0, hi, hz0, hz1, hz2⟩ := info_parts info59
  have HM := Lib.hid hmap
  clear hmap
  go_enter Try.func38, Try.ntmps38
  go_wp2_with fail
  refine (mkeys_any _ _).mono ?_
  rintro e w' ⟨rfl, rfl⟩
  go_wp2_with fail
  refine (sorted_any w.heap.size b E _ (by simp) (by go_simp) (HM.out.alloc _) hE).mono ?_
  rintro e w1 ⟨v, ks, rfl, hp, hs, ho, hk⟩
  obtain ⟨A, cap, rfl, hcap, hml, hA⟩ := own_form ho
  have hlen : ks.length ≤ 1000 := by
    have := hp.length_eq
    simp [keys] at this
    omega
  have HP := Lib.hid (And.intro hp hs)
  have HK1 := Lib.hid ((Kp.alloc No w _).tr hk)
  have HO := Lib.hid (own_mono (base' := w.heap.size) ho (by simp))
  clear hp hs ho hk hA
  go_wp2_with fail
  go_loopw [3, 10] (fun s i wr => ∃ k : Nat, k ≤ ks.length ∧ i = .int .i64 k ∧ wr.ownsRow w.heap.size 59 4 s (abv (bal E) (ks.take k)).length (flat (abv (bal E) (ks.take k))) ∧ wr.ownsRow w.heap.size 92 3 (.slice A ks.length cap) ks.length (ks.flatMap kcells) ∧ Kp No w wr) (fun _ i _ => ks.length - (intOf i).toNat)
  case atStart => exact ⟨0, by omega, rfl, ⟨rfl, .inl ⟨rfl, rfl⟩⟩, HO.out, HK1.out⟩
  case round =>
    obtain ⟨k, hk, rfl, hown, hkeys, hkp⟩ := hrel
    by_cases hlt : k < ks.length
    · obtain ⟨⟨d, p, f⟩, hx⟩ : ∃ x, ks[k]? = some x := ⟨_, List.getElem?_eq_getElem hlt⟩
      obtain ⟨g, rfl, hg0, hgl, _, hc⟩ := own_at kc_len hkeys hx (by omega)
      have c0 := (hc 0 _ rfl).1
      have c1 := (hc 1 _ rfl).1
      have c2 := (hc 2 _ rfl).1
      simp only [Nat.add_zero] at c0 c1 c2
      have HSN := Lib.hid (show abv (bal E) (ks.take (k + 1)) = abv (bal E) (ks.take k) ++ if 0 < bal E (d, p, f) then [cellK (bal E) (d, p, f)] else [] by rw [List.take_add_one, hx]; exact abv_snoc _ _ _)
      have hal : (abv (bal E) (ks.take k)).length ≤ k := by
        unfold abv
        rw [List.length_map]
        have := List.length_filter_le (fun k => decide (0 < bal E k)) (ks.take k)
        rw [List.length_take] at this
        omega
      obtain ⟨av, cv, rfl, _, _, _⟩ := own_form hown
      have HOW := Lib.hid hown
      have HKE := Lib.hid hkeys
      have HKP := Lib.hid hkp
      have hm2 := (HM.out.below hkp.toBelow HM.out.lt).alloc (Obj.cells #[.int .i64 d, .int .i64 p, .int .i64 f] 92)
      have hlk := hm2.run_lookup keyOk Try.underlying64 (zero3 _) (d, p, f) false
      have hlk' : ∀ w2 : World, w2.heap = (wr.alloc (Obj.cells #[.int .i64 d, .int .i64 p, .int .i64 f] 92)).heap → True := fun _ _ => trivial
      clear hlk' hc hx hown hkeys hkp hm2
      have hb : (get1 E (d, p, f)).getD 0 = bal E (d, p, f) := rfl
      rw [hb] at hlk
      clear hb
      simp only [ek, Bool.false_eq_true, if_false] at hlk
      generalize hxq : bal E (d, p, f) = q at hlk HSN
      have HQ := Lib.hid hxq
      clear hxq
      by_cases hq : 0 < q
      · have HL2 := Lib.hid (show abv (bal E) (ks.take (k + 1)) = abv (bal E) (ks.take k) ++ [cellK (bal E) (d, p, f)] by rw [HSN.out, if_pos hq])
        go_wp2_with fail
        obtain ⟨w2, hw2⟩ : ∃ w2, wr.alloc (.cells #[.int .i64 d, .int .i64 p, .int .i64 f] 92) = w2 := ⟨_, rfl⟩
        have b0 : w2.cell? ⟨wr.heap.size, 0, none⟩ = some (.int .i64 d) := by rw [← hw2]; clear hw2; go_simp
        have b1 : w2.cell? ⟨wr.heap.size, 1, none⟩ = some (.int .i64 p) := by rw [← hw2]; clear hw2; go_simp
        have b2 : w2.cell? ⟨wr.heap.size, 2, none⟩ = some (.int .i64 f) := by rw [← hw2]; clear hw2; go_simp
        have HOW2 := Lib.hid (show w2.ownsRow _ 59 4 _ _ _ by rw [← hw2]; exact HOW.out.alloc _)
        have HKE2 := Lib.hid (show w2.ownsRow _ 92 3 _ _ _ by rw [← hw2]; exact HKE.out.alloc _)
        have HKP2 := Lib.hid (show Kp No w w2 by rw [← hw2]; exact HKP.out.tr (Kp.alloc _ _ _))
        have HB2 := Lib.hid (show w2.heap[wr.heap.size]? = some (.cells #[.int .i64 d, .int .i64 p, .int .i64 f] 92 (0, 0)) by rw [← hw2]; exact World.alloc_heap_new wr _)
        rw [hw2]
        clear hw2 hlk HOW HKE HKP c0 c1 c2
        have hne : ¬ (Value.slice av (abv (bal E) (ks.take k)).length cv).ownBlock = some wr.heap.size := own_other HOW2.out (B := wr.heap.size) HB2.out (by decide)
        have KS := Lib.hid (show ∀ w', Kp (fun g => (Value.slice av (abv (bal E) (ks.take k)).length cv).ownBlock = some g) w2 w' → w'.cell? ⟨wr.heap.size, 0, none⟩ = some (.int .i64 d) ∧ w'.cell? ⟨wr.heap.size, 1, none⟩ = some (.int .i64 p) ∧ w'.cell? ⟨wr.heap.size, 2, none⟩ = some (.int .i64 f) ∧ Sem.run Try.prog (Instr.lookup 64 (.map (some b)) (.agg #[.int .i64 d, .int .i64 p, .int .i64 f]) false) w' = .ok (.int .i64 q) w' from fun w' hk' => by
          refine ⟨hk'.cell b0 hne, hk'.cell b1 hne, hk'.cell b2 hne, ?_⟩
          have := (HM.out.below (HKP2.out.trans hk' (fun k hk hS => absurd hk (Nat.not_lt.2 (own_ge HOW2.out hS).1))).toBelow HM.out.lt).run_lookup keyOk Try.underlying64 (zero3 _) (d, p, f) false
          rw [show (get1 E (d, p, f)).getD 0 = q from HQ.out] at this
          exact this)
        have h63 : (abv (bal E) (ks.take k)).length + 1 ≤ maxLen := by unfold maxLen; omega
        have hbytes : ((abv (bal E) (ks.take k)).length + 1) * 32 ≤ 140737488355328 := by omega
        have HN4 := Lib.hid (show ∀ w' : World, ∀ j u, (cellK (bal E) (d, p, f)).cells4[j]? = some u → (w'.alloc (.cells #[.int .i64 d, .int .i64 p, .int .i64 f, .int .i64 q] 59)).cell? ((⟨w'.heap.size, 0, none⟩ : Addr).add j) = some u from fun w' => by
          have := new4c w' (cellK (bal E) (d, p, f))
          simp only [cellK, HQ.out] at this ⊢
          exact this)
        have HNO := Lib.hid (show ∀ b : Nat, (some (⟨b, 0, none⟩ : Addr) = none → (1 : Nat) = 0 ∧ (1 : Nat) = 0) from fun b h => by cases h)
        have hsz2 : w.heap.size ≤ w2.heap.size := HKP2.out.size
        clear b0 b1 b2
        generalize hL : (abv (bal E) (ks.take k)).length = L at *
        have HLL := Lib.hid hL
        clear hL hne
        go_region_held3 (fun w' => w'.cell? ⟨wr.heap.size, 0, none⟩ = some (.int .i64 d) ∧ w'.cell? ⟨wr.heap.size, 1, none⟩ = some (.int .i64 p) ∧ w'.cell? ⟨wr.heap.size, 2, none⟩ = some (.int .i64 f) ∧ Sem.run Try.prog (Instr.lookup 64 (.map (some b)) (.agg #[.int .i64 d, .int .i64 p, .int .i64 f]) false) w' = .ok (.int .i64 q) w') (first | exact KS.out _ KG | exact KS.out _ (Kp.refl _ _) | exact KS.out _ (Kp.drew _ _) | exact KS.out _ ((Kp.drew _ _).tr (Kp.alloc _ _ _)) | exact KS.out _ ((Kp.alloc _ _ _).tr (Kp.drew _ _)) | go_keep)
          ((first | (refine stepS_append (by rfl) _ _ 40 (by rfl) w.heap.size 59 i0 (.agg #[.int .i64 0, .int .i64 0, .int .i64 0, .int .i64 0]) 4 32 Try.underlying40 hi hz0 hz1 hz2 (by rfl) (by decide) (.slice av L cv) L (flat (abv (bal E) (ks.take k))) (by rfl) (own_kp HOW2.out ((Kp.drew No _).tr (Kp.alloc No _ _)) (fun _ _ h => h)) (some ⟨w2.heap.size, 0, none⟩) 1 1 (cellK (bal E) (d, p, f)).cells4 (by rfl) rfl (HNO.out _) (fun ad had => by cases had; exact HN4.out w2) (cells4_one _) h63 hbytes (by simp; omega) (L + 1) rfl _ (flat_snoc _ _).symm ?_; intro v5 w5 hown5 hgrow hnz5; have KG : Kp (fun g => (Value.slice av L cv).ownBlock = some g) w2 w5 := ((Kp.drew _ _).tr (Kp.alloc _ _ _)).tr (Kp.grown hgrow fun g hg _ => hg))))
        have KE5 := Lib.hid (KG.owns HKE2.out fun g hg hS => own_apart HOW2.out HKE2.out (by decide) hS hg)
        have KP5 := Lib.hid (HKP2.out.trans KG (fun k hk hS => absurd hk (Nat.not_lt.2 (own_ge HOW2.out hS).1)))
        have O5 := Lib.hid (show w5.ownsRow w.heap.size 59 4 v5 (abv (bal E) (ks.take (k + 1))).length (flat (abv (bal E) (ks.take (k + 1)))) by rw [HL2.out, List.length_append, HLL.out]; exact hown5)
        clear hown5 hgrow hnz5 KG
        go_wp2_with fail
        go_roundw
        case rel => exact ⟨k + 1, by omega, by go_num, O5.out, KE5.out, KP5.out⟩
        case measure => simp [intOf]; omega
      · have HL2 := Lib.hid (show abv (bal E) (ks.take (k + 1)) = abv (bal E) (ks.take k) by rw [HSN.out, if_neg hq, List.append_nil])
        go_wp2_with fail
        go_roundw
        case rel => exact ⟨k + 1, by omega, by go_num, by rw [HL2.out]; exact HOW.out.alloc _, HKE.out.alloc _, HKP.out.tr (Kp.alloc _ _ _)⟩
        case measure => simp [intOf]; omega
    · obtain rfl : k = ks.length := by omega
      have hf : ks.take ks.length = ks := List.take_length
      rw [hf] at hown
      have HOW := Lib.hid hown
      have HKP := Lib.hid hkp
      clear hown hkeys hkp hf
      go_wp2
      go_ret
      exact ⟨_, ks, rfl, HP.out.1, HP.out.2, HOW.out, HKP.out⟩
end Go.Proofs.Ytfflhlmnfhfcgaa
