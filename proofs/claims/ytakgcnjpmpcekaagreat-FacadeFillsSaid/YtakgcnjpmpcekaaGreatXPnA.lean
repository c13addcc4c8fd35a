/- Chapter 24: the groups of fields, their sizes and gaps; what is wrong with pipes. -/
import Derived.Test.YtakgcnjpmpcekaaGreatXFlBM
namespace Go.Proofs.YtakgcnjpmpcekaaGreat
open Go.RowKit Go.Kq

def frC (A : Option Addr) (n ca : Nat) (R : Option Addr) (m cr : Nat) (least : Int) : Array Value := #[.slice A n ca, .slice R m cr, .int .i64 least]
def frV (A : Option Addr) (n ca : Nat) (R : Option Addr) (m cr : Nat) (least : Int) : Value := .agg (frC A n ca R m cr least)
section
variable (A R : Option Addr) (n ca m cr : Nat) (least : Int)
theorem groups_any (w : World) (hn : n ≤ 12) : Calls Tryz.prog 29 #[frV A n ca R m cr least] w fun e w' => e = .returned (.int .i64 ((n + 1) / 2 : Nat)) ∧ Kp No w w' := by
  unfold frV frC
  have hk : Kp No w (w.alloc (.cells #[.slice A n ca, .slice R m cr, .int .i64 least] 62)) := Kp.alloc _ _ _
  have he : ((n : Int) + 1) / 2 = (((n + 1) / 2 : Nat) : Int) := by omega
  go_enter Tryz.func29, Tryz.ntmps29
  go_wp2_with fail
  go_ret
  exact ⟨rfl, hk⟩
theorem group_any (k : Nat) (w : World) (hn : n ≤ 12) (hk : k < (n + 1) / 2) : Calls Tryz.prog 50 #[frV A n ca R m cr least, .int .i64 (k : Nat)] w fun e w' => e = .returned (.tuple #[.int .i64 (lefN n k : Nat), .int .i64 (n - 1 - lefN n k : Nat)]) ∧ Kp No w w' := by
  unfold frV frC
  have hk0 : Kp No w (w.alloc (.cells #[.slice A n ca, .slice R m cr, .int .i64 least] 62)) := Kp.alloc _ _ _
  have he : ((n : Int) + 1) / 2 - 1 - (k : Int) = (lefN n k : Nat) := by unfold lefN; omega
  have he2 : (n : Int) - 1 - (lefN n k : Nat) = ((n - 1 - lefN n k : Nat) : Int) := by unfold lefN; omega
  have hl : lefN n k ≤ n := by unfold lefN; omega
  generalize lefN n k = L at *
  obtain ⟨q, hq⟩ : ∃ q, q = n - 1 - L := ⟨_, rfl⟩
  rw [← hq] at he2 ⊢
  have he0 : ((n : Int) + 1) / 2 ≤ 6 := by omega
  have he1 : 0 ≤ ((n : Int) + 1) / 2 := by omega
  clear hq
  go_enter Tryz.func50, Tryz.ntmps50
  go_wp2_with fail
  go_quiet (fail)
  go_wp2_with fail
  go_ret2
  exact ⟨rfl, hk0.tr (Kp.drewN _ _ _)⟩
theorem fsize_any (k : Nat) (w : World) (hn : n ≤ 12) (hk : k < (n + 1) / 2) : Calls Tryz.prog 30 #[frV A n ca R m cr least, .int .i64 (k : Nat)] w fun e w' => e = .returned (.int .i64 (sizN n k : Nat)) ∧ Kp No w w' := by
  have GR := Lib.hid (fun w0 => group_any A R n ca m cr least k w0 hn hk)
  unfold sizN
  generalize lefN n k = L at *
  generalize n - 1 - L = q at *
  unfold frV frC at *
  have hk0 : Kp No w (w.alloc (.cells #[.slice A n ca, .slice R m cr, .int .i64 least] 62)) := Kp.alloc _ _ _
  by_cases h : L = q
  · subst h
    rw [if_pos rfl]
    go_enter Tryz.func30, Tryz.ntmps30
    go_wp2_with fail
    with_reducible refine (GR.out _).mono ?_
    rintro e w1 ⟨rfl, k1⟩
    go_wp2_with fail
    go_ret
    exact ⟨rfl, hk0.tr k1⟩
  · rw [if_neg h]
    have d1 : ((L : Int) == (q : Int)) = false := by simp; omega
    have d2 : (L == q) = false := by simp [h]
    clear h
    go_enter Tryz.func30, Tryz.ntmps30
    go_wp2_with fail
    with_reducible refine (GR.out _).mono ?_
    rintro e w1 ⟨rfl, k1⟩
    go_wp2_with fail
    go_ret
    exact ⟨rfl, hk0.tr k1⟩
end
theorem sel_succ (r : List Int) (at_ s i side : Nat) : (selN r at_ s (i + 1) side).sum = (selN r at_ s i side).sum + r.getD (at_ + s * i + side) 0 := by
  unfold selN
  rw [List.range_succ, List.map_append, List.sum_append]
  simp
theorem getD_mem {r : List Int} {i : Nat} (h : i < r.length) : r.getD i 0 ∈ r := by
  rw [List.getD_eq_getElem?_getD, List.getElem?_eq_getElem h]
  exact List.getElem_mem h
theorem sel_bd {r : List Int} (hr : ∀ x ∈ r, 1 ≤ x ∧ x ≤ 1000000) (at_ s side : Nat) : ∀ i, 0 ≤ (selN r at_ s i side).sum ∧ (selN r at_ s i side).sum ≤ 1000000 * i
  | 0 => by simp [selN]
  | i + 1 => by
    have ih := sel_bd hr at_ s side i
    have h : 0 ≤ r.getD (at_ + s * i + side) 0 ∧ r.getD (at_ + s * i + side) 0 ≤ 1000000 := by
      rcases Nat.lt_or_ge (at_ + s * i + side) r.length with h | h
      · have := hr _ (getD_mem h)
        omega
      · rw [List.getD_eq_getElem?_getD, List.getElem?_eq_none h]
        simp
    rw [sel_succ]
    omega
theorem sel_len (r : List Int) (at_ s i side : Nat) : (selN r at_ s i side).length = i := by simp [selN]
def mstN (l : List Fc) (r : List Int) (k at_ n s : Nat) : Int := (List.range s).foldl (fun m s => max m (sgpN l r k at_ n s)) 0
theorem mst_succ (l : List Fc) (r : List Int) (k at_ n s : Nat) : mstN l r k at_ n (s + 1) = max (mstN l r k at_ n s) (sgpN l r k at_ n s) := by
  unfold mstN
  rw [List.range_succ, List.foldl_append]
  rfl
theorem ggp_yes {l : List Fc} {r : List Int} {least : Int} {k at_ n : Nat} (h : ∀ s, s < sizN l.length k → least ≤ sgpN l r k at_ n s) : ggpN l r least k at_ n = (mstN l r k at_ n (sizN l.length k), true) := by
  unfold ggpN
  rw [if_pos]
  · rfl
  · simpa [List.all_eq_true, List.mem_range] using h
theorem ggp_no {l : List Fc} {r : List Int} {least : Int} {k at_ n s : Nat} (hs : s < sizN l.length k) (h : sgpN l r k at_ n s < least) : ggpN l r least k at_ n = (0, false) := by
  unfold ggpN
  rw [if_neg]
  intro h2
  simp only [List.all_eq_true, List.mem_range, decide_eq_true_eq] at h2
  have := h2 s hs
  omega
set_option maxHeartbeats 8000000 in
theorem gap_any (A R : Option Addr) (n ca m cr : Nat) (least : Int) (l : List Fc) (r : List Int) (k at_ q : Nat) (w : World) (hA : RdF w A n l) (hX : RdI .i64 w R m r) (hn : n ≤ 12) (hm : m ≤ 60) (hk : k < (n + 1) / 2) (hq : at_ + sizN n k * q ≤ m)
    (hl : ∀ f ∈ l, 1 ≤ f.w ∧ f.w ≤ 10000000) (hr : ∀ x ∈ r, 1 ≤ x ∧ x ≤ 1000000) (hle : 0 ≤ least ∧ least ≤ 10000000) :
    Calls Tryz.prog 31 #[frV A n ca R m cr least, .int .i64 (k : Nat), .int .i64 (at_ : Nat), .int .i64 (q : Nat)] w fun e w' => e = .returned (.tuple #[.int .i64 (ggpN l r least k at_ q).1, .bool (ggpN l r least k at_ q).2]) ∧ Kp No w w' := by
  have SZ := Lib.hid (fun w0 => fsize_any A R n ca m cr least k w0 hn hk)
  have GR := Lib.hid (fun w0 => group_any A R n ca m cr least k w0 hn hk)
  have hll := hA.1
  have hrl := hX.1
  have hs := siz_pos n k
  have hs2 : sizN n k ≤ 2 := by unfold sizN; split <;> omega
  have hlf := (lef_lt hk).1
  obtain ⟨f, hf⟩ : ∃ f, l[lefN n k]? = some f := ⟨_, List.getElem?_eq_getElem (by omega)⟩
  have hfw := hl f (List.mem_of_getElem? hf)
  have HSG := Lib.hid (show ∀ s, sgpN l r k at_ q s = gapN f.w (selN r at_ (sizN n k) q s) from fun s => by unfold sgpN; rw [hll, getD_at hf])
  have HYES := Lib.hid (show (∀ s, s < sizN n k → least ≤ sgpN l r k at_ q s) → ggpN l r least k at_ q = (mstN l r k at_ q (sizN n k), true) from fun h => by have := ggp_yes (l := l) (r := r) (least := least) (k := k) (at_ := at_) (n := q) (by rw [hll]; exact h); rw [hll] at this; exact this)
  have HNO := Lib.hid (show ∀ s, s < sizN n k → sgpN l r k at_ q s < least → ggpN l r least k at_ q = (0, false) from fun s h1 h2 => ggp_no (by rw [hll]; exact h1) h2)
  obtain ⟨S, hS⟩ : ∃ S, S = sizN n k := ⟨_, rfl⟩
  obtain ⟨L, hL⟩ : ∃ L, L = lefN n k := ⟨_, rfl⟩
  obtain ⟨L2, hL2⟩ : ∃ L2, L2 = n - 1 - L := ⟨_, rfl⟩
  rw [← hL] at GR hf hlf
  rw [← hL2] at GR
  rw [← hS] at SZ HSG HYES HNO hq hs hs2
  obtain ⟨b, o, rfl, _, c0, c1⟩ := rdf_at hA hf
  have HC := Lib.hid c0
  have HX := Lib.hid hX
  have HR := Lib.hid hr
  have HLE := Lib.hid hle.1
  have HRL := Lib.hid hrl
  have HBD := Lib.hid (fun side i => sel_bd hr at_ S side i)
  have hq60 : q ≤ 60 := by
    have := Nat.mul_le_mul_right q hs
    omega
  have HMS := Lib.hid (mst_succ l r k at_ q)
  have HM0 := Lib.hid (show mstN l r k at_ q 0 = 0 from rfl)
  generalize mstN l r k at_ q = MS at *
  generalize sgpN l r k at_ q = SG at *
  clear hA hX hr hll hrl hf c1 hS hL hL2 hl hle hk
  have hk0 : Kp No w (w.alloc (.cells #[.slice (some ⟨b, o, none⟩) n ca, .slice R m cr, .int .i64 least] 62)) := Kp.alloc _ _ _
  obtain ⟨g0, hg0⟩ : ∃ g0, g0 = w.heap.size := ⟨_, rfl⟩
  have hbx : (w.alloc (.cells #[.slice (some ⟨b, o, none⟩) n ca, .slice R m cr, .int .i64 least] 62)).heap[g0]? = some (.cells #[.slice (some ⟨b, o, none⟩) n ca, .slice R m cr, .int .i64 least] 62 (0, 0)) := by rw [hg0]; exact heap_alloc_new _ _
  unfold frV frC at *
  go_enter Tryz.func31, Tryz.ntmps31
  go_wp2_with fail
  rw [← hg0]
  generalize w.alloc (.cells #[.slice (some ⟨b, o, none⟩) n ca, .slice R m cr, .int .i64 least] 62) = w1 at *
  clear hg0
  with_reducible refine (SZ.out _).mono ?_
  rintro e w2 ⟨rfl, k2⟩
  have hb2 := k2.heap hbx id
  have b0 : w2.cell? ⟨g0, 0, none⟩ = some (.slice (some ⟨b, o, none⟩) n ca) := by rw [cell_of_row _ _ _ _ _ _ hb2]; rfl
  have b1 : w2.cell? ⟨g0, 1, none⟩ = some (.slice R m cr) := by rw [cell_of_row _ _ _ _ _ _ hb2]; rfl
  have b2 : w2.cell? ⟨g0, 2, none⟩ = some (.int .i64 least) := by rw [cell_of_row _ _ _ _ _ _ hb2]; rfl
  go_wp2_with fail
  with_reducible refine (GR.out _).mono ?_
  rintro e w3 ⟨rfl, k3⟩
  have HB := Lib.hid (k3.heap hb2 id)
  have HK := Lib.hid ((hk0.tr k2).tr k3)
  clear k2 k3 hbx hb2 b0 b1 b2 hk0 SZ GR
  go_wp2_with fail
  go_loopw [13, 28] (fun v i wr => ∃ s : Nat, s ≤ S ∧ i = .int .i64 (s : Nat) ∧ v = .int .i64 (MS s) ∧ (∀ s', s' < s → least ≤ SG s') ∧ 0 ≤ MS s ∧ Kp No w3 wr) (fun _ i _ => S - (intOf i).toNat)
  case atStart => exact ⟨0, by omega, rfl, by rw [HM0.out], fun s' h => by omega, by rw [HM0.out]; exact Int.le_refl _, Kp.refl _ _⟩
  case round =>
    obtain ⟨s, hsS, rfl, rfl, hok, hms, hkp⟩ := hrel
    have HOK := Lib.hid hok
    have HKP := Lib.hid hkp
    clear hok
    by_cases hlt : s < S
    · have hbw := hkp.heap HB.out id
      have b0 : wr.cell? ⟨g0, 0, none⟩ = some (.slice (some ⟨b, o, none⟩) n ca) := by rw [cell_of_row _ _ _ _ _ _ hbw]; rfl
      have b1 : wr.cell? ⟨g0, 1, none⟩ = some (.slice R m cr) := by rw [cell_of_row _ _ _ _ _ _ hbw]; rfl
      have b2 : wr.cell? ⟨g0, 2, none⟩ = some (.int .i64 least) := by rw [cell_of_row _ _ _ _ _ _ hbw]; rfl
      have c0 := (HK.out.tr hkp).cell HC.out id
      clear hkp hbw
      obtain ⟨wo, hwo⟩ : ∃ wo, wr = wo := ⟨_, rfl⟩
      subst hwo
      go_wp2_with fail
      go_loop [15, 38] (fun v i => ∃ j : Nat, j ≤ q ∧ i = .int .i64 (j : Nat) ∧ v = .int .i64 (f.w - 2 * (selN r at_ S j s).sum)) (fun _ i => q - (intOf i).toNat)
      case atStart => exact ⟨0, by omega, rfl, by simp [selN]⟩
      case round =>
        obtain ⟨j, hj, rfl, rfl⟩ := hrel
        have hbd := HBD.out s j
        have hbd2 := HBD.out s (j + 1)
        by_cases hjl : j < q
        · have hix : at_ + S * j + s < m := by
            have := Nat.mul_le_mul_left S (show j + 1 ≤ q from hjl)
            rw [Nat.mul_succ] at this
            omega
          obtain ⟨x, hx⟩ : ∃ x, r[at_ + S * j + s]? = some x := ⟨_, List.getElem?_eq_getElem (by rw [HRL.out]; exact hix)⟩
          have hss := Lib.hid (sel_succ r at_ S j s)
          have hxd : r.getD (at_ + S * j + s) 0 = x := by rw [List.getD_eq_getElem?_getD, hx]; rfl
          rw [hxd] at hss
          obtain ⟨b', o', rfl, hb', hc'⟩ := (HX.out.no (HK.out.tr HKP.out)).2 _ x hx
          have hx1 := HR.out x (List.mem_of_getElem? hx)
          rw [hss.out] at hbd2
          obtain ⟨ix, hixe⟩ : ∃ ix, ix = at_ + S * j + s := ⟨_, rfl⟩
          have hxi : (at_ : Int) + (S : Int) * (j : Int) + (s : Int) = (ix : Int) := by rw [hixe]; simp
          have hmul : (0 : Int) ≤ (S : Int) * (j : Int) ∧ (S : Int) * (j : Int) ≤ 120 := by
            have h1 : S * j ≤ 2 * 60 := Nat.mul_le_mul hs2 (by omega)
            have : (S : Int) * (j : Int) = ((S * j : Nat) : Int) := by simp
            omega
          obtain ⟨sj, hsj⟩ : ∃ sj, sj = (S : Int) * (j : Int) := ⟨_, rfl⟩
          rw [← hixe] at hc' hix
          have hat : at_ ≤ 60 := by omega
          clear hx hxd
          generalize (selN r at_ S j s).sum = T at *
          rw [← hsj] at hxi hmul
          have hsj' : (S : Int) * (j : Int) = sj := hsj.symm
          clear hixe hsj
          go_wp2_with fail
          go_round
          case rel => exact ⟨j + 1, by omega, by go_num, by rw [hss.out]; congr 1; omega⟩
          case measure => simp [intOf]; omega
        · obtain rfl : j = q := by omega
          have hsg := HSG.out s
          have hLl := sel_len r at_ S j s
          unfold gapN at hsg
          rw [hLl] at hsg
          clear hLl hbd2
          generalize (selN r at_ S j s).sum = T at *
          by_cases hneg : f.w - 2 * T < 0
          · rw [if_pos hneg] at hsg
            have HG := Lib.hid (HNO.out s hlt (by rw [hsg]; have := HLE.out; omega))
            clear hsg
            go_wp2_with fail
            go_ret2
            exact ⟨by rw [HG.out]; rfl, HK.out.tr HKP.out⟩
          · rw [if_neg hneg] at hsg
            obtain ⟨gg, hgg⟩ : ∃ gg, gg = (f.w - 2 * T) / ((j : Int) + 1) := ⟨_, rfl⟩
            have hg0 : 0 ≤ gg := by rw [hgg]; exact Int.ediv_nonneg (by omega) (by omega)
            have hg1 : gg ≤ f.w - 2 * T := by rw [hgg]; exact Int.ediv_le_self _ (by omega)
            have hge : (f.w - 2 * T) / ((j : Int) + 1) = gg := hgg.symm
            rw [hge] at hsg
            have HSE := Lib.hid hsg
            clear hsg hgg
            by_cases hlst : gg < least
            · have HG := Lib.hid (HNO.out s hlt (by rw [HSE.out]; exact hlst))
              go_wp2_with fail
              go_ret2
              exact ⟨by rw [HG.out]; rfl, HK.out.tr HKP.out⟩
            · obtain ⟨mx, hmx⟩ : ∃ mx, mx = max (MS s) gg := ⟨_, rfl⟩
              have hmxe : max (MS s) gg = mx := hmx.symm
              have hmx0 : 0 ≤ mx := by omega
              have HMX := Lib.hid (show MS (s + 1) = mx by rw [HMS.out, HSE.out, hmx])
              clear hmx
              go_wp2_with fail
              go_roundw
              case rel => exact ⟨s + 1, by omega, by go_num, by rw [HMX.out, ← hmxe]; congr 1; (split <;> omega), fun s' h => by
                rcases Nat.lt_or_ge s' s with h2 | h2
                · exact HOK.out s' h2
                · obtain rfl : s' = s := by omega
                  rw [HSE.out]; omega, by rw [HMX.out]; exact hmx0, HKP.out⟩
              case measure => simp [intOf]; omega
    · obtain rfl : s = S := by omega
      have HG := Lib.hid (HYES.out HOK.out)
      clear hkp
      go_wp2_with fail
      go_ret2
      exact ⟨by rw [HG.out]; rfl, HK.out.tr HKP.out⟩
end Go.Proofs.YtakgcnjpmpcekaaGreat
