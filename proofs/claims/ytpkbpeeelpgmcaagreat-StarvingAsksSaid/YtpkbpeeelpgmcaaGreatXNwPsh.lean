/- Chapter 14: the walk of push. -/
import Derived.Test.YtpkbpeeelpgmcaaGreatXNwWlk
namespace Go.Proofs.YtpkbpeeelpgmcaaGreat
open Go.RowKit Go.Kq Go.Flow

def Good (V : Nat) (L : List Pi) : Prop := ∀ p ∈ L, p.fr ≤ V ∧ p.to ≤ V ∧ p.fr ≠ p.to ∧ p.mo ≤ 200000000000000
theorem Good.same {V : Nat} {L L' : List Pi} (h : Good V L) (hs : Same L L') : Good V L' := fun q hq => by
  obtain ⟨i, hi⟩ := List.mem_iff_getElem?.1 hq
  have hlt := (List.getElem?_eq_some_iff.1 hi).1
  obtain ⟨p, hp⟩ : ∃ p, L[i]? = some p := ⟨_, List.getElem?_eq_getElem (by have := hs.len; omega)⟩
  obtain ⟨f, h1, _⟩ := hs.at_ i p hp
  rw [hi] at h1
  cases h1
  exact h p (List.mem_of_getElem? hp)
/-- The boxes of push's variables. -/
structure Bx (w : World) (H B s t : Nat) (most sum : Int) : Prop where
  p : w.heap[H]? = some (.cells #[.pointer (some ⟨B, 0, none⟩)] 90 (0, 0))
  f : w.heap[H + 1]? = some (.cells #[.int .i64 s] 3 (0, 0))
  t : w.heap[H + 1 + 1]? = some (.cells #[.int .i64 t] 3 (0, 0))
  m : w.heap[H + 1 + 1 + 1]? = some (.cells #[.int .i64 most] 2 (0, 0))
  s : w.heap[H + 1 + 1 + 1 + 1]? = some (.cells #[.int .i64 sum] 2 (0, 0))
theorem Bx.kp {S : Nat → Prop} {w w' : World} {H B s t : Nat} {most sum : Int} (h : Bx w H B s t most sum) (hk : Kp S w w') (hS : ∀ k c t, S k → w.heap[k]? = some (.cells c t (0, 0)) → t = 98) : Bx w' H B s t most sum := by
  refine ⟨hk.heap h.p ?_, hk.heap h.f ?_, hk.heap h.t ?_, hk.heap h.m ?_, hk.heap h.s ?_⟩
  · intro hs; exact absurd (hS _ _ _ hs h.p) (by decide)
  · intro hs; exact absurd (hS _ _ _ hs h.f) (by decide)
  · intro hs; exact absurd (hS _ _ _ hs h.t) (by decide)
  · intro hs; exact absurd (hS _ _ _ hs h.m) (by decide)
  · intro hs; exact absurd (hS _ _ _ hs h.s) (by decide)
theorem Bx.no {w w' : World} {H B s t : Nat} {most sum : Int} (h : Bx w H B s t most sum) (hk : Kp No w w') : Bx w' H B s t most sum := h.kp hk fun _ _ _ h => h.elim
theorem bx_new (w : World) (B s t : Nat) (most : Int) : Bx (((((w.alloc (.cells #[.pointer (some ⟨B, 0, none⟩)] 90)).alloc (.cells #[.int .i64 s] 3)).alloc (.cells #[.int .i64 t] 3)).alloc (.cells #[.int .i64 most] 2)).alloc (.cells #[.int .i64 0] 2)) w.heap.size B s t most 0 := by
  refine ⟨?_, ?_, ?_, ?_, ?_⟩
  · rw [Below.heap_alloc _ _ _ (by simp <;> omega), Below.heap_alloc _ _ _ (by simp <;> omega), Below.heap_alloc _ _ _ (by simp <;> omega), Below.heap_alloc _ _ _ (by simp <;> omega), heap_alloc_new]
  · rw [Below.heap_alloc _ _ _ (by simp <;> omega), Below.heap_alloc _ _ _ (by simp <;> omega), Below.heap_alloc _ _ _ (by simp <;> omega)]
    have := heap_alloc_new (w.alloc (.cells #[.pointer (some ⟨B, 0, none⟩)] 90)) (.cells #[.int .i64 s] 3)
    simpa using this
  · rw [Below.heap_alloc _ _ _ (by simp <;> omega), Below.heap_alloc _ _ _ (by simp <;> omega)]
    have := heap_alloc_new ((w.alloc (.cells #[.pointer (some ⟨B, 0, none⟩)] 90)).alloc (.cells #[.int .i64 s] 3)) (.cells #[.int .i64 t] 3)
    simpa using this
  · rw [Below.heap_alloc _ _ _ (by simp <;> omega)]
    have := heap_alloc_new (((w.alloc (.cells #[.pointer (some ⟨B, 0, none⟩)] 90)).alloc (.cells #[.int .i64 s] 3)).alloc (.cells #[.int .i64 t] 3)) (.cells #[.int .i64 most] 2)
    simpa using this
  · have := heap_alloc_new ((((w.alloc (.cells #[.pointer (some ⟨B, 0, none⟩)] 90)).alloc (.cells #[.int .i64 s] 3)).alloc (.cells #[.int .i64 t] 3)).alloc (.cells #[.int .i64 most] 2)) (.cells #[.int .i64 0] 2)
    simpa using this
theorem heap_set1 {w : World} {b : Nat} {v u : Value} {t : TypeId} (h : w.heap[b]? = some (.cells #[v] t (0, 0))) : (w.setCell ⟨b, 0, none⟩ u).heap[b]? = some (.cells #[u] t (0, 0)) := by
  simp [World.setCell, Array.getElem?_modify, h]
theorem Bx.sum {w : World} {H B s t : Nat} {most sum sum' : Int} (h : Bx w H B s t most sum) : Bx (w.setCell ⟨H + 1 + 1 + 1 + 1, 0, none⟩ (.int .i64 sum')) H B s t most sum' := by
  have hk := kp_setOne w (H + 1 + 1 + 1 + 1) 0 (.int .i64 sum')
  exact ⟨hk.heap h.p (by unfold Kq.One; omega), hk.heap h.f (by unfold Kq.One; omega), hk.heap h.t (by unfold Kq.One; omega), hk.heap h.m (by unfold Kq.One; omega), heap_set1 h.s⟩
theorem free_one {w : World} {b : Nat} {v : Value} {t : TypeId} (h : w.heap[b]? = some (.cells #[v] t (0, 0))) (i : Nat) : w.frozen? ⟨b, i, none⟩ = false := by simp [World.frozen?, h]
theorem row_76 {w : World} {base B V : Nat} {sl : Value} {L : List Pi} (h : Web w base B V sl L) : ∀ k c t, Row sl k → w.heap[k]? = some (.cells c t (0, 0)) → t = 98 := fun _ _ _ hk hc => row_type h.row hk hc
set_option maxHeartbeats 8000000 in
set_option maxRecDepth 100000 in
theorem push_any (base B V : Nat) (sl : Value) (L : List Pi) (s t : Nat) (most : Int) (w : World) (hW : Web w base B V sl L) (hG : Good V L) (hF : Fit L) (hs : s ≤ V) (ht : t ≤ V) (hst : s ≠ t) (hm : 0 ≤ most ∧ most ≤ 200000000000000) (hL : L.length ≤ 100) (hV : V ≤ 30) :
    Calls Tryz.prog 52 #[.pointer (some ⟨B, 0, none⟩), .int .i64 s, .int .i64 t, .int .i64 most] w fun e w' => ∃ L' d, e = .returned (.int .i64 d) ∧ Web w' base B V sl L' ∧ Pushed L L' s t d ∧ 0 ≤ d ∧ d ≤ most ∧ (d = most ∨ ∃ b m, Lab L' s b m ∧ Clo (Rs s b) L' ∧ Rs s b t = false) ∧ Kp (Row sl) w w' := by
  have HW := Lib.hid hW
  have HG := Lib.hid hG
  have HF := Lib.hid hF
  have HN := Lib.hid hst
  clear hW hG hF hst
  generalize hH : w.heap.size = H
  have HH := Lib.hid hH
  clear hH
  go_enter Tryz.func52, Tryz.ntmps52
  go_wp2_with fail
  have hbx := bx_new w B s t most
  rw [HH.out] at hbx ⊢
  have HBX := Lib.hid hbx
  clear hbx
  go_loopg [12] most.toNat (fun gk _ wr => ∃ (L' : List Pi) (sum : Int), gk = (most - sum).toNat ∧ Bx wr H B s t most sum ∧ Web wr base B V sl L' ∧ Pushed L L' s t sum ∧ 0 ≤ sum ∧ sum ≤ most ∧ Kp (Row sl) w wr)
  case atStart =>
    have hk : Kp No w _ := ((((Kp.alloc No w (.cells #[.pointer (some ⟨B, 0, none⟩)] 90)).tr (Kp.alloc No _ (.cells #[.int .i64 s] 3))).tr (Kp.alloc No _ (.cells #[.int .i64 t] 3))).tr (Kp.alloc No _ (.cells #[.int .i64 most] 2))).tr (Kp.alloc No _ (.cells #[.int .i64 0] 2))
    exact ⟨L, 0, by omega, HBX.out, HW.out.no hk, Pushed.refl HF.out _ _, by omega, hm.1, hk.of_no⟩
  case round =>
    obtain ⟨L', sum, hgk, hbx, hweb, hpu, hs0, hs1, hkp⟩ := hrel
    have bp := cell_one hbx.p
    have bf := cell_one hbx.f
    have bt := cell_one hbx.t
    have bm := cell_one hbx.m
    have bs := cell_one hbx.s
    have HGK := Lib.hid hgk
    have HB := Lib.hid hbx
    have HWB := Lib.hid hweb
    have HP := Lib.hid hpu
    have hlen := hpu.same.len
    have HLN := Lib.hid hlen
    clear hgk hbx hweb hpu hlen
    by_cases hlt : sum < most
    · go_wp2_with fail
      refine (reach_any base B V sl L' s t wr HWB.out (fun p hp => by have := (HG.out.same HP.out.same) p hp; exact ⟨this.1, this.2.1, this.2.2.1⟩) hs hV (by rw [HLN.out]; exact hL)).mono ?_
      rintro e w1 ⟨b, g, rfl, hlb, hlab, hbv, hend, hk1⟩
      have hkw := hkp.no hk1
      have HB1 := Lib.hid (HB.out.no hk1)
      have HWB1 := Lib.hid (HWB.out.no hk1)
      have HEND := Lib.hid hend
      have HLAB := Lib.hid hlab
      have HBV := Lib.hid hbv
      have HLB := Lib.hid hlb
      have b1p := cell_one HB1.out.p
      have b1f := cell_one HB1.out.f
      have b1t := cell_one HB1.out.t
      have b1m := cell_one HB1.out.m
      have b1s := cell_one HB1.out.s
      have hsz1 : H + 1 + 1 + 1 + 1 < w1.heap.size := (Array.getElem?_eq_some_iff.1 HB1.out.s).1
      have z0 : H < w1.heap.size := by omega
      have z1 : H + 1 < w1.heap.size := by omega
      have z2 : H + 1 + 1 < w1.heap.size := by omega
      have z3 : H + 1 + 1 + 1 < w1.heap.size := by omega
      have hgs : g < w1.heap.size := (Array.getElem?_eq_some_iff.1 HLB.out).1
      have hcl := lbl_cell hlb (v := t) ht
      clear hend hlab hbv hlb hk1
      cases hbt : b t with
      | none =>
        rw [hbt] at hcl
        replace hcl : w1.cell? ⟨g, t, none⟩ = some (.int .i64 0) := hcl
        have HBT := Lib.hid hbt
        clear hbt
        go_wp2_with fail
        go_ret
        refine ⟨L', sum, rfl, HWB1.out.no (Kp.alloc _ _ _), HP.out, hs0, hs1, .inr ?_, hkw.no (Kp.alloc _ _ _)⟩
        obtain ⟨m, hm⟩ := HLAB.out
        refine ⟨b, m, hm, ?_, ?_⟩
        · rcases HEND.out with ⟨v, hv, hvt⟩ | h
          · have : v = t := by omega
            rw [this] at hv
            exact absurd HBT.out hv
          · exact h.1
        · cases hr : Rs s b t with
          | false => rfl
          | true =>
            rcases rs_iff.1 hr with h | h
            · exact absurd h.symm HN.out
            · exact absurd HBT.out h
      | some s0 =>
        rw [hbt] at hcl
        have hc0 := code_ne s0
        generalize hcc : code (some s0) = c0 at hcl hc0
        have hc1 : (c0 == 0) = false := by rw [beq_eq_false_iff_ne]; exact hc0
        have hlt2 : sum ≤ most := by omega
        obtain ⟨m, hlab⟩ := HLAB.out
        obtain ⟨l, hway, hd⟩ := hlab.way (v := t) (.inr (by rw [hbt]; simp))
        have hne : l ≠ [] := by
          rintro rfl
          cases hway
          exact HN.out rfl
        have HWY := Lib.hid hway
        have HD := Lib.hid hd
        have HNE := Lib.hid hne
        clear hbt hcc hc0 hlab hway hd hne
        obtain ⟨g0, cap0, rfl⟩ : ∃ g0 cap0, sl = .slice (some ⟨g0, 0, none⟩) L'.length cap0 := by
          obtain ⟨a, cap, rfl, _, _, hnn⟩ := own_form HWB.out.row
          have hpos : 0 < L'.length := by
            have hw := HWY.out
            cases hw with
            | nil => exact absurd rfl HNE.out
            | cons _ _ hR _ =>
              obtain ⟨p, hp, _⟩ := hR
              have := (List.getElem?_eq_some_iff.1 hp).1
              omega
          obtain ⟨g0, rfl⟩ := hnn hpos
          exact ⟨g0, cap, rfl⟩
        have HFIT := Lib.hid (show ∀ p ∈ L', p.fr ≤ V ∧ p.to ≤ V ∧ 0 ≤ p.fl ∧ p.fl ≤ p.mo ∧ p.mo ≤ 200000000000000 from fun p hp => by
          have h1 := (HG.out.same HP.out.same) p hp
          have h2 := HP.out.fit p hp
          exact ⟨h1.1, h1.2.1, h2.1, h2.2, h1.2.2.2⟩)
        have HCP := Lib.hid (show Cap (w1.alloc (.cells #[.slice (some ⟨g, 0, none⟩) (V + 1) (V + 1)] 23)) (H + 1 + 1 + 1) (H + 1 + 1 + 1 + 1) (H + 1 + 1) (H + 1) w1.heap.size H most sum t s g V B b from by
          have hk := Kp.alloc No w1 (.cells #[.slice (some ⟨g, 0, none⟩) (V + 1) (V + 1)] 23)
          have hb := HB1.out.no hk
          exact ⟨hb.m, hb.s, hb.t, hb.f, heap_alloc_new w1 _, hb.p, hk.heap HLB.out (fun h => h)⟩)
        have hlp := leastOf_pos HWY.out (most - sum) (by omega)
        have hll := leastOf_le L' l (most - sum)
        have HLL := Lib.hid hll.2
        have hl1 := hll.1
        generalize hn0 : Flow.leastOf L' l (most - sum) = n0 at *
        have HN0 := Lib.hid hn0
        clear hll hn0
        go_wp2_with fail
        refine (walk_any base B V g0 cap0 L' (H + 1 + 1 + 1) (H + 1 + 1 + 1 + 1) (H + 1 + 1) (H + 1) w1.heap.size H most sum t s g b l 0 _ (HWB1.out.no (Kp.alloc _ _ _)) HCP.out HWY.out HD.out ht HBV.out (by have := HLN.out; omega) hV HFIT.out ⟨hs0, hlt2, hm.2⟩ ⟨by omega, by omega⟩).mono ?_
        rw [HN0.out, aug_zero]
        rintro e w2 ⟨rfl, hw2, hk2⟩
        have HC2 := Lib.hid (HCP.out.kp hk2 fun k c t hk hc => row_76 (HWB1.out.no (Kp.alloc _ _ _)) k c t (by have : k = g0 := hk; rw [this]; rfl) hc)
        have HWB2 := Lib.hid hw2
        have HK2 := Lib.hid hk2
        clear hw2 hk2
        go_wp2_with fail
        refine (walk_any base B V g0 cap0 L' (H + 1 + 1 + 1) (H + 1 + 1 + 1 + 1) (H + 1 + 1) (H + 1) w1.heap.size H most sum t s g b l n0 _ HWB2.out HC2.out HWY.out HD.out ht HBV.out (by have := HLN.out; omega) hV HFIT.out ⟨hs0, hlt2, hm.2⟩ ⟨by omega, by omega⟩).mono ?_
        rintro e w3 ⟨rfl, hw3, hk3⟩
        have HC3 := Lib.hid (HC2.out.kp hk3 fun k c t hk hc => row_76 HWB2.out k c t (by have : k = g0 := hk; rw [this]; rfl) hc)
        have c3s := cell_one HC3.out.s
        have f3s := free_one HC3.out.s 0
        have HWB3 := Lib.hid hw3
        have HK3 := Lib.hid hk3
        clear hw3 hk3
        go_wp2_with fail
        go_roundg (most - (sum + n0)).toNat
        case measure => have := HGK.out; omega
        case rel =>
          have hpw := Pushed.way HP.out.fit HWY.out HD.out (Int.le_of_lt hlp) HLL.out
          have hb3 : Bx w3 H B s t most sum := ⟨HC3.out.p, HC3.out.f, HC3.out.t, HC3.out.m, HC3.out.s⟩
          have hne : g0 ≠ H + 1 + 1 + 1 + 1 := fun e => absurd (row_76 HWB3.out _ _ _ (show Row _ (H + 1 + 1 + 1 + 1) by rw [← e]; rfl) HC3.out.s) (by decide)
          have hks := kp_setOne w3 (H + 1 + 1 + 1 + 1) 0 (.int .i64 (sum + n0))
          refine ⟨aug n0 l L', sum + n0, rfl, hb3.sum, HWB3.out.kp hks (fun e => ?_) (fun k hk e => ?_), HP.out.trans hpw, by omega, by omega, ?_⟩
          · have e2 : B = H + 1 + 1 + 1 + 1 := e
            have h1 := HWB3.out.head
            have h2 := HC3.out.s
            rw [← e2, h1] at h2
            simp at h2
          · have e2 : k = H + 1 + 1 + 1 + 1 := e
            have e3 : k = g0 := by
              have : some g0 = some k := hk
              injection this with this
              exact this.symm
            exact hne (by omega)
          · have hh := HH.out
            refine (hkw.trans ((Kp.alloc (Kq.One g0) _ _).tr (HK2.out.tr HK3.out)) (fun k _ h => ?_)).trans hks (fun k hk e => ?_)
            · have e3 : k = g0 := h
              rw [e3]
              rfl
            · have e2 : k = H + 1 + 1 + 1 + 1 := e
              omega
    · go_wp2_with fail
      go_ret
      exact ⟨L', sum, rfl, HWB.out, HP.out, hs0, hs1, .inl (by omega), hkp⟩
end Go.Proofs.YtpkbpeeelpgmcaaGreat
