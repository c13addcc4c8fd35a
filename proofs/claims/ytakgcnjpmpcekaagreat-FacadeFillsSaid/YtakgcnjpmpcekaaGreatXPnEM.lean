/- Chapter 24: what is wrong with pipes: the program's and the reference's. · Chapter 24: the program's Plan. -/
import Derived.Test.YtakgcnjpmpcekaaGreatXFlBM
import Derived.Test.YtakgcnjpmpcekaaGreatXPnD
namespace Go.Proofs.YtakgcnjpmpcekaaGreat
open Go.RowKit Go.Kq

def pipB (r : List Int) (i : Nat) : Bool := oB (r.getD i 0) 1 1000000 || (decide (0 < i) && decide (r.getD (i - 1) 0 < r.getD i 0))
theorem pipE_eq (r : List Int) : pipE r = if 60 < r.length then 3 else if (List.range r.length).any (pipB r) then 2 else 0 := rfl
theorem pip_stop {r : List Int} {k : Nat} (h60 : ¬ 60 < r.length) (hk : k < r.length) (h : pipB r k = true) : pipE r = 2 := by
  rw [pipE_eq, if_neg h60, if_pos]
  rw [List.any_eq_true]
  exact ⟨k, List.mem_range.2 hk, h⟩
theorem pip_succ (r : List Int) (k : Nat) : (List.range (k + 1)).any (pipB r) = ((List.range k).any (pipB r) || pipB r k) := by
  rw [List.range_succ, List.any_append]
  simp
theorem pip_ok {r : List Int} (h : pipE r = 0) : r.length ≤ 60 ∧ ∀ x ∈ r, 1 ≤ x ∧ x ≤ 1000000 := by
  rw [pipE_eq] at h
  split at h
  · cases h
  · rename_i h1
    split at h
    · cases h
    · rename_i h2
      refine ⟨by omega, fun x hx => ?_⟩
      obtain ⟨k, hk, e⟩ := List.getElem_of_mem hx
      have hb : pipB r k = false := by
        have := List.any_eq_false.1 (Bool.eq_false_iff.2 h2) k (List.mem_range.2 hk)
        simpa using this
      have hg : r.getD k 0 = x := by rw [List.getD_eq_getElem?_getD, List.getElem?_eq_getElem hk]; exact e
      unfold pipB oB at hb
      rw [hg] at hb
      simp only [Bool.or_eq_false_iff, decide_eq_false_iff_not] at hb
      omega
theorem intD_at {r : List Int} {k : Nat} {x : Int} (h : r[k]? = some x) : r.getD k 0 = x := by
  rw [List.getD_eq_getElem?_getD, h]
  rfl
set_option maxHeartbeats 4000000 in
theorem fcheck_any (R : Option Addr) (m cr : Nat) (r : List Int) (w : World) (hR : RdI .i64 w R m r) (hm : m ≤ 100000) :
    Calls Tryz.prog 27 #[.slice R m cr] w fun e w' => e = .returned (.int .i64 (pipE r)) ∧ w' = w := by
  have hl := hR.1
  have HR := Lib.hid hR
  have HL := Lib.hid hl
  by_cases h60 : 60 < m
  · have HE := Lib.hid (show pipE r = 3 by rw [pipE_eq, if_pos (by omega)])
    rw [HE.out]
    clear hl hR
    go_enter Tryz.func27, Tryz.ntmps27
    go_wp2_with fail
    go_ret
    exact ⟨rfl, rfl⟩
  · have hm60 : m ≤ 60 := by omega
    clear hl hR h60
    go_enter Tryz.func27, Tryz.ntmps27
    go_wp2_with fail
    go_loop [10] (fun i => ∃ k : Nat, k ≤ m ∧ i = .int .i64 (k : Nat) ∧ (List.range k).any (pipB r) = false) (fun i => m - (intOf i).toNat)
    case atStart => exact ⟨0, by omega, rfl, rfl⟩
    case round =>
      obtain ⟨k, hk, rfl, hno⟩ := hrel
      have HN := Lib.hid hno
      clear hno
      by_cases hlt : k < m
      · obtain ⟨x, hx⟩ : ∃ x, r[k]? = some x := ⟨_, List.getElem?_eq_getElem (by rw [HL.out]; exact hlt)⟩
        obtain ⟨b, o, rfl, hb, hc⟩ := HR.out.2 k x hx
        have HD := Lib.hid (intD_at hx)
        have HST := Lib.hid (fun h => pip_stop (r := r) (k := k) (by rw [HL.out]; omega) (by rw [HL.out]; exact hlt) h)
        clear hx
        have OUT := Lib.hid (fun w0 => outside_any x 1 1000000 w0)
        cases hbad : oB x 1 1000000
        · rw [hbad] at OUT
          have HBAD := Lib.hid hbad
          clear hbad
          by_cases h0 : k = 0
          · subst h0
            simp only [Nat.add_zero] at hc
            have HP := Lib.hid (show pipB r 0 = false by unfold pipB; rw [HD.out, HBAD.out]; rfl)
            go_wp2_with fail
            with_reducible refine (OUT.out _).mono ?_
            rintro e w1 ⟨rfl, rfl⟩
            go_wp2_with fail
            go_round
            case rel => exact ⟨1, by omega, rfl, by rw [pip_succ r 0, HN.out, HP.out]; rfl⟩
            case measure => simp [intOf]; omega
          · have hk0 : 0 < k := by omega
            obtain ⟨y, hy⟩ : ∃ y, r[k - 1]? = some y := ⟨_, List.getElem?_eq_getElem (by rw [HL.out]; omega)⟩
            obtain ⟨b', o', hA', _, hc'⟩ := HR.out.2 (k - 1) y hy
            injection hA' with hA'
            injection hA' with hA1 hA2
            subst hA1 hA2
            have HDY := Lib.hid (intD_at hy)
            have hk1 : (k : Int) - 1 = ((k - 1 : Nat) : Int) := by omega
            clear hy h0
            by_cases hxy : y < x
            · have HP := Lib.hid (show pipB r k = true by unfold pipB; rw [HD.out, HDY.out, HBAD.out]; simp [hk0, hxy])
              have HE := Lib.hid (HST.out HP.out)
              go_wp2_with fail
              with_reducible refine (OUT.out _).mono ?_
              rintro e w1 ⟨rfl, rfl⟩
              go_wp2_with fail
              go_ret
              exact ⟨by rw [HE.out]; rfl, rfl⟩
            · have HP := Lib.hid (show pipB r k = false by unfold pipB; rw [HD.out, HDY.out, HBAD.out]; simp [hxy] <;> omega)
              go_wp2_with fail
              with_reducible refine (OUT.out _).mono ?_
              rintro e w1 ⟨rfl, rfl⟩
              go_wp2_with fail
              go_round
              case rel => exact ⟨k + 1, by omega, by go_num, by rw [pip_succ, HN.out, HP.out]; rfl⟩
              case measure => simp [intOf]; omega
        · rw [hbad] at OUT
          have HE := Lib.hid (HST.out (by unfold pipB; rw [HD.out, hbad]; rfl))
          clear hbad
          go_wp2_with fail
          with_reducible refine (OUT.out _).mono ?_
          rintro e w1 ⟨rfl, rfl⟩
          go_wp2_with fail
          go_ret
          exact ⟨by rw [HE.out]; rfl, rfl⟩
      · obtain rfl : k = m := by omega
        have HE := Lib.hid (show pipE r = 0 by rw [pipE_eq, if_neg (by rw [HL.out]; omega), HL.out, HN.out]; rfl)
        go_wp2_with fail
        go_ret
        exact ⟨by rw [HE.out]; rfl, rfl⟩
end Go.Proofs.YtakgcnjpmpcekaaGreat

namespace Go.Proofs.YtakgcnjpmpcekaaGreat
open Go.RowKit Go.Kq

theorem zero_k : Tryz.zeroCells65 = Array.replicate 427 (.pointer none) := by kernel_rfl
theorem RwM.mono {base base' g L : Nat} {w : World} {Ls : List (List Int)} (h : RwM base w g L Ls) (hb : base' ≤ base) : RwM base' w g L Ls := by
  obtain ⟨h1, h2, us, h3, h4, h5, h6⟩ := h
  exact ⟨h1, Nat.le_trans hb h2, us, h3, h4, fun i S hS => by
    obtain ⟨v, hv, ho⟩ := h5 i S hS
    exact ⟨v, hv, own_mono ho hb⟩, h6⟩
def PlnR (l : List Fc) (r : List Int) (least : Int) (w : World) (e : Ending) (w' : World) : Prop := Kp No w w' ∧
  ((plnE l r least ≠ 0 ∧ e = .returned (.tuple #[.slice none 0 0, .int .i64 (plnE l r least)])) ∨
   (plnE l r least = 0 ∧ ∃ g, e = .returned (.tuple #[.slice (some ⟨g, 0, none⟩) l.length l.length, .int .i64 0]) ∧ RwM w.heap.size w' g l.length (intP (plnL l r least))))
theorem chk_ok {l : List Fc} (h : chkF l = 0) : l.length ≤ 12 ∧ (∀ f ∈ l, badF f = false) ∧ (List.range l.length).all (formB l) = true := by
  unfold chkF at h
  split at h
  · cases h
  · split at h
    · cases h
    · rename_i h1 h2
      split at h
      · rename_i h3
        refine ⟨by omega, fun f hf => ?_, h3⟩
        have := List.any_eq_false.1 (Bool.eq_false_iff.2 h2) f hf
        simpa using this
      · cases h
set_option maxHeartbeats 8000000 in
set_option maxRecDepth 100000 in
theorem Plan_any (A R : Option Addr) (n ca m cr : Nat) (l : List Fc) (r : List Int) (least : Int) (w : World) (hA : RdF w A n l) (hR : RdI .i64 w R m r) (hn : n ≤ 100000) (hm : m ≤ 100000) :
    Calls Tryz.prog 12 #[.slice A n ca, .slice R m cr, .int .i64 least] w (PlnR l r least w) := by
  have CK := Lib.hid (fun w0 (k : Kp No w w0) => Check_any A n ca l w0 (hA.no k) (by omega))
  have CP := Lib.hid (fun w0 (k : Kp No w w0) => fcheck_any R m cr r w0 (hR.no k) hm)
  have OUT := Lib.hid (fun w0 => outside_any least 0 10000000 w0)
  have HA := Lib.hid hA
  have HR := Lib.hid hR
  have HPE := Lib.hid (show plnE l r least = if chkF l ≠ 0 then chkF l else if pipE r ≠ 0 then pipE r else if oB least 0 10000000 then 2 else if (bstN l r least ((l.length + 1) / 2) 0).2 then 0 else 4 from rfl)
  have hk0 : Kp No w (w.alloc (.cells #[.slice R m cr] 22)) := Kp.alloc _ _ _
  have hbx : (w.alloc (.cells #[.slice R m cr] 22)).heap[w.heap.size]? = some (.cells #[.slice R m cr] 22 (0, 0)) := heap_alloc_new _ _
  clear hA hR
  by_cases hc : chkF l = 0
  rotate_left
  · have hne : (chkF l == 0) = false := by simp [hc]
    have hne2 : (chkF l != 0) = true := by simp [hc]
    have HE := Lib.hid (show plnE l r least = chkF l by rw [HPE.out, if_pos hc])
    have HC := Lib.hid hc
    generalize chkF l = E at *
    clear hc hbx
    go_enter Tryz.func12, Tryz.ntmps12
    go_wp2_with fail
    with_reducible refine (CK.out _ hk0).mono ?_
    rintro e w1 ⟨rfl, k1⟩
    go_wp2_with fail
    go_ret2
    exact ⟨hk0.tr k1, .inl ⟨by rw [HE.out]; exact HC.out, by rw [HE.out]; rfl⟩⟩
  have HC := Lib.hid hc
  rw [hc] at CK
  by_cases hp : pipE r = 0
  rotate_left
  · have hne : (pipE r == 0) = false := by simp [hp]
    have hne2 : (pipE r != 0) = true := by simp [hp]
    have HE := Lib.hid (show plnE l r least = pipE r by rw [HPE.out, if_neg (fun h => h hc), if_pos hp])
    have HP := Lib.hid hp
    generalize pipE r = E at *
    obtain ⟨g0, hg0⟩ : ∃ g0, g0 = w.heap.size := ⟨_, rfl⟩
    rw [← hg0] at hbx
    clear hp hc
    go_enter Tryz.func12, Tryz.ntmps12
    go_wp2_with fail
    rw [← hg0]
    clear hg0
    with_reducible refine (CK.out _ hk0).mono ?_
    rintro e w1 ⟨rfl, k1⟩
    have hb1 := k1.heap hbx id
    have b0 : w1.cell? ⟨g0, 0, none⟩ = some (.slice R m cr) := by rw [cell_of_row _ _ _ _ _ _ hb1]; rfl
    go_wp2_with fail
    with_reducible refine (CP.out _ (hk0.tr k1)).mono ?_
    rintro e w2 ⟨rfl, hw⟩
    subst hw
    go_wp2_with fail
    go_ret2
    exact ⟨hk0.tr k1, .inl ⟨by rw [HE.out]; exact HP.out, by rw [HE.out]; rfl⟩⟩
  have HP := Lib.hid hp
  rw [hp] at CP
  obtain ⟨g0, hg0⟩ : ∃ g0, g0 = w.heap.size := ⟨_, rfl⟩
  rw [← hg0] at hbx
  have HG0 := Lib.hid hg0
  cases ho : oB least 0 10000000
  rotate_left
  · rw [ho] at OUT
    have HE := Lib.hid (show plnE l r least = 2 by rw [HPE.out, if_neg (fun h => h hc), if_neg (fun h => h hp), if_pos ho])
    clear hp hc ho
    go_enter Tryz.func12, Tryz.ntmps12
    go_wp2_with fail
    rw [← hg0]
    clear hg0
    with_reducible refine (CK.out _ hk0).mono ?_
    rintro e w1 ⟨rfl, k1⟩
    have hb1 := k1.heap hbx id
    have b0 : w1.cell? ⟨g0, 0, none⟩ = some (.slice R m cr) := by rw [cell_of_row _ _ _ _ _ _ hb1]; rfl
    go_wp2_with fail
    with_reducible refine (CP.out _ (hk0.tr k1)).mono ?_
    rintro e w2 ⟨rfl, hw⟩
    subst hw
    go_wp2_with fail
    with_reducible refine (OUT.out _).mono ?_
    rintro e w2 ⟨rfl, hw⟩
    subst hw
    go_wp2_with fail
    go_ret2
    exact ⟨hk0.tr k1, .inl ⟨by rw [HE.out]; decide, by rw [HE.out]; rfl⟩⟩
  rw [ho] at OUT
  have hlb : 0 ≤ least ∧ least ≤ 10000000 := by
    unfold oB at ho
    simp only [Bool.or_eq_false_iff, decide_eq_false_iff_not] at ho
    omega
  have HPB := Lib.hid (show plnE l r least = if (bstN l r least ((l.length + 1) / 2) 0).2 then 0 else 4 by rw [HPE.out, if_neg (fun h => h hc), if_neg (fun h => h hp), ho]; rfl)
  clear hp hc ho HPE
  go_enter Tryz.func12, Tryz.ntmps12
  go_wp2_with fail
  rw [← hg0]
  clear hg0
  with_reducible refine (CK.out _ hk0).mono ?_
  rintro e w1 ⟨rfl, k1⟩
  have hb1 := k1.heap hbx id
  have b0 : w1.cell? ⟨g0, 0, none⟩ = some (.slice R m cr) := by rw [cell_of_row _ _ _ _ _ _ hb1]; rfl
  go_wp2_with fail
  with_reducible refine (CP.out _ (hk0.tr k1)).mono ?_
  rintro e w2 ⟨rfl, hw⟩
  subst hw
  go_wp2_with fail
  with_reducible refine (OUT.out _).mono ?_
  rintro e w2 ⟨rfl, hw⟩
  subst hw
  have HK1 := Lib.hid (hk0.tr k1)
  have HB1 := Lib.hid hb1
  clear hbx hb1 hk0 k1
  have hst := fun (w : World) (a : Addr) (f : Fn) ts cs => run_store Tryz.prog w a (.func f ts cs) .plain rfl
  obtain ⟨gF, hgF⟩ : ∃ gF, gF = w2.heap.size := ⟨_, rfl⟩
  have hOK := chk_ok HC.out
  have hPO := pip_ok HP.out
  have hln := HA.out.1
  have hrn := HR.out.1
  have HX : Cx.Ok ⟨A, n, ca, R, m, cr, least, l, r, gF, g0, gF + 1, gF + 1 + 1, w⟩ := ⟨HA.out, HR.out, by rw [← hln]; exact hOK.1, by rw [← hrn]; exact hPO.1, fun f hf => (kind_of (hOK.2.1 f hf)).2.2, hPO.2, hlb, by have := HK1.out.size; show w.heap.size ≤ gF + 1; omega⟩
  have hkw := ((Kp.alloc No w2 (.cells #[.slice A n ca, .slice R m cr, .int .i64 least] 62)).tr (Kp.alloc No _ (.cells Tryz.zeroCells65 65))).tr (Kp.alloc No _ (.cells #[.func (.func 28) #[] #[.pointer (some ⟨gF, 0, none⟩), .pointer (some ⟨g0, 0, none⟩), .pointer (some ⟨gF + 1, 0, none⟩), .pointer (some ⟨gF + 1 + 1, 0, none⟩)]] 66))
  have h1 := (Kp.alloc No _ (.cells #[.func (.func 28) #[] #[.pointer (some ⟨gF, 0, none⟩), .pointer (some ⟨g0, 0, none⟩), .pointer (some ⟨gF + 1, 0, none⟩), .pointer (some ⟨gF + 1 + 1, 0, none⟩)]] 66)).heap ((Kp.alloc No _ (.cells Tryz.zeroCells65 65)).heap (heap_alloc_new w2 (.cells #[.slice A n ca, .slice R m cr, .int .i64 least] 62)) id) id
  have h2 := (Kp.alloc No _ (.cells #[.func (.func 28) #[] #[.pointer (some ⟨gF, 0, none⟩), .pointer (some ⟨g0, 0, none⟩), .pointer (some ⟨gF + 1, 0, none⟩), .pointer (some ⟨gF + 1 + 1, 0, none⟩)]] 66)).heap (heap_alloc_new (w2.alloc (.cells #[.slice A n ca, .slice R m cr, .int .i64 least] 62)) (.cells Tryz.zeroCells65 65)) id
  have h3 := heap_alloc_new ((w2.alloc (.cells #[.slice A n ca, .slice R m cr, .int .i64 least] 62)).alloc (.cells Tryz.zeroCells65 65)) (.cells #[.func (.func 28) #[] #[.pointer (some ⟨gF, 0, none⟩), .pointer (some ⟨g0, 0, none⟩), .pointer (some ⟨gF + 1, 0, none⟩), .pointer (some ⟨gF + 1 + 1, 0, none⟩)]] 66)
  rw [World.size_alloc, ← hgF] at h2
  rw [World.size_alloc, World.size_alloc, ← hgF] at h3
  rw [← hgF] at h1
  have HGF := Lib.hid hgF
  go_wp2_with fail
  rw [← hgF]
  clear hgF
  generalize ((w2.alloc (.cells #[.slice A n ca, .slice R m cr, .int .i64 least] 62)).alloc (.cells Tryz.zeroCells65 65)).alloc (.cells #[.func (.func 28) #[] #[.pointer (some ⟨gF, 0, none⟩), .pointer (some ⟨g0, 0, none⟩), .pointer (some ⟨gF + 1, 0, none⟩), .pointer (some ⟨gF + 1 + 1, 0, none⟩)]] 66) = w5 at *
  have HME : Cx.Me ⟨A, n, ca, R, m, cr, least, l, r, gF, g0, gF + 1, gF + 1 + 1, w⟩ w5 (fun _ => False) := ⟨HK1.out.tr hkw, h1, hkw.heap HB1.out id, h3, _, h2, fun k at_ hk hat => ⟨.pointer none, by rw [zero_k, Array.getElem?_replicate, if_pos (by omega)], .inl rfl⟩⟩
  have BA := Lib.hid (best_any _ HX ((n + 1) / 2) 0 0 (fun _ => False) w5 (by show _ = (n + 1) / 2; omega) (Nat.zero_le _) HME (fun b h => h.elim))
  have HK5 := Lib.hid (HK1.out.tr hkw)
  have hK0 := Lib.hid (show ¬ Kq.One (gF + 1) g0 from fun e => by have e : g0 = gF + 1 := e; have h1 := HG0.out; have h2 := HGF.out; have h3 := HK1.out.size; omega)
  have HXX := Lib.hid HX
  clear h1 h2 h3 hkw b0 HME HX hst
  dsimp only [pt] at BA
  rw [show ((0 : Nat) : Int) = 0 from rfl] at BA
  with_reducible refine BA.out.mono ?_
  rintro e w6 ⟨p, rfl, hp, hme, _, k6⟩
  dsimp only at hp k6
  have HP6 := Lib.hid hp
  have HM6 := Lib.hid hme
  have HK6 := Lib.hid k6
  have hpc := ChB.cells (show ChB w6 p (bstN l r least ((n + 1) / 2) 0) from hp)
  obtain ⟨p0, p1, p2, p3, p4⟩ := hpc
  have HBE := Lib.hid (show bstN l r least ((l.length + 1) / 2) 0 = bstN l r least ((n + 1) / 2) 0 by rw [hln])
  have HKW := Lib.hid (show Kp No w w6 from HK5.out.trans k6 fun b hb e => by
    have e : b = gF + 1 := e
    have h2 := HGF.out
    have h3 := HK1.out.size
    omega)
  obtain ⟨Q, hQ⟩ : ∃ q : Int × Bool, q = bstN l r least ((n + 1) / 2) 0 := ⟨_, rfl⟩
  rw [← hQ] at HP6 p0 p1
  have HQ := Lib.hid hQ
  obtain ⟨gA, hgA⟩ : ∃ gA, gA = w6.heap.size := ⟨_, rfl⟩
  have k7 := Kp.alloc No w6 (.cells #[.pointer (some ⟨p, 0, none⟩)] 63)
  have hb7 := heap_alloc_new w6 (.cells #[.pointer (some ⟨p, 0, none⟩)] 63)
  have hgAl : gA < (w6.alloc (.cells #[.pointer (some ⟨p, 0, none⟩)] 63)).heap.size := by rw [World.size_alloc]; omega
  rw [← hgA] at hb7
  have HALL := Lib.hid (show Cx.All ⟨A, n, ca, R, m, cr, least, l, r, gF, g0, gF + 1, gF + 1 + 1, w⟩ gA p Q (w6.alloc (.cells #[.pointer (some ⟨p, 0, none⟩)] 63)) from ⟨hb7, k7.heap HP6.out id⟩)
  have HM7 := Lib.hid (HM6.out.no k7)
  have HK7 := Lib.hid (HKW.out.tr k7)
  clear hp hme k6 BA hQ
  unfold pt
  cases hq2 : Q.2
  · rw [hq2] at p1
    have HE := Lib.hid (show plnE l r least = 4 by rw [HPB.out, HBE.out, ← HQ.out, hq2]; rfl)
    clear hq2 hgA hb7 k7 hgAl
    go_wp2_with fail
    go_ret2
    exact ⟨HK7.out, .inl ⟨by rw [HE.out]; decide, by rw [HE.out]; rfl⟩⟩
  · rw [hq2] at p1
    have HE := Lib.hid (show plnE l r least = 0 by rw [HPB.out, HBE.out, ← HQ.out, hq2]; rfl)
    have HL := Lib.hid (show plnL l r least = stdN l r least Q.1 ((n + 1) / 2) 0 (List.replicate n []) by
      unfold plnL
      rw [if_pos HE.out, HBE.out, ← HQ.out, hln])
    have gfc := HM7.out.fc
    obtain ⟨f0, f1, f2⟩ := gfc
    dsimp only at f0 f1 f2
    have HBL := Lib.hid (show bleN Q.1 (bstN l r least ((n + 1) / 2) 0) = true by rw [← HQ.out]; unfold bleN; rw [hq2]; simp)
    have STD := Lib.hid (stand_any _ HXX.out (fun f hf => ⟨(kind_of (hOK.2.1 f hf)).1, (kind_of (hOK.2.1 f hf)).2.1⟩) gA p Q (fun _ => False) _ HM7.out (fun b h => h.elim) HALL.out HBL.out)
    have hgA0 := hgA
    have HGA := Lib.hid hgA
    clear hq2 hb7 k7 hgAl hgA0
    dsimp only [frV, frC, pt] at STD
    go_wp2_with fail
    rw [← hgA]
    clear hgA
    generalize w6.alloc (.cells #[.pointer (some ⟨p, 0, none⟩)] 63) = w7 at *
    with_reducible refine STD.out.mono ?_
    rintro e w8 ⟨g, rfl, hrw, hme8, k8⟩
    dsimp only at hrw k8
    have HO := Lib.hid hrw
    have HK8 := Lib.hid (show Kp No w w8 from HK7.out.trans k8 fun b hb e => by
      have e : b = gF + 1 := e
      have h2 := HGF.out
      have h3 := HK1.out.size
      omega)
    clear hrw hme8 k8
    go_wp2_with fail
    go_ret2
    refine ⟨HK8.out, .inr ⟨HE.out, g, ?_, ?_⟩⟩
    · rw [hln]
      rfl
    · have h := HO.out.mono HK7.out.size
      rw [HL.out, hln]
      exact h
end Go.Proofs.YtakgcnjpmpcekaaGreat
