/- Chapter 14: walks of demands and of what it calls. -/
import Derived.Deep.RegionHeld3
import Derived.Deep.DrawnRows
import Derived.Test.YtpkbpeeelpgmcaaGreatXLibAppSM
namespace Go.Proofs.YtpkbpeeelpgmcaaGreat
open Go.RowKit Go.Kq Go.Flow

def dOk (d : Int) : Prop := 0 ≤ d ∧ d ≤ 1000000000000
instance (d : Int) : Decidable (dOk d) := by unfold dOk; infer_instance
theorem dbad_any (d : Int) (w : World) : Calls Tryz.prog 73 #[.int .i64 d] w fun e w' => e = .returned (.bool (!decide (dOk d))) ∧ w = w' := by
  by_cases h : d < 0
  · go_enter Tryz.func73, Tryz.ntmps73
    go_wp2
    go_ret
    exact ⟨ret_bool (by rw [decide_eq_false (fun h2 => by unfold dOk at h2; omega)]; rfl), rfl⟩
  · by_cases h2 : 1000000000000 < d
    · go_enter Tryz.func73, Tryz.ntmps73
      go_wp2
      go_ret
      exact ⟨ret_bool (by rw [decide_eq_false (fun h2 => by unfold dOk at h2; omega)]; simp), rfl⟩
    · go_enter Tryz.func73, Tryz.ntmps73
      go_wp2
      go_ret
      exact ⟨ret_bool (by rw [decide_eq_true (show dOk d by unfold dOk; omega)]; rfl), rfl⟩
set_option maxHeartbeats 1000000 in
theorem dindex_any (l : List Int) (A : Option Addr) (m ca : Nat) (w : World) (hA : RdI .i64 w A m l) (hm : m ≤ 1000000) :
    Calls Tryz.prog 63 #[.slice A m ca, .func (.func 73) #[] #[]] w fun e w' => ∃ r : Int, e = .returned (.int .i64 r) ∧ (0 ≤ r ↔ ∃ d ∈ l, ¬ dOk d) ∧ Kp No w w' := by
  have hl := hA.1
  go_enter Tryz.func63, Tryz.ntmps63
  go_wp2_with fail
  go_loopw [8] (fun i wr => ∃ k : Nat, k ≤ m ∧ i = .int .i64 k ∧ (∀ t ∈ l.take k, dOk t) ∧ Kp No w wr) (fun i _ => m - (intOf i).toNat)
  case atStart => exact ⟨0, by omega, rfl, by simp, Kp.refl _ _⟩
  case round =>
    obtain ⟨k, hk, rfl, hgo, hkp⟩ := hrel
    have HGO := Lib.hid hgo
    clear hgo
    by_cases hlt : k < m
    · obtain ⟨t, ht⟩ : ∃ t, l[k]? = some t := ⟨_, List.getElem?_eq_getElem (by omega)⟩
      obtain ⟨bb, o, rfl, hbb, x0⟩ := (hA.no hkp).2 k t ht
      have HT := Lib.hid ht
      clear ht
      go_wp2_with fail
      refine (dbad_any t _).mono ?_
      by_cases hg : dOk t
      · rw [decide_eq_true hg]
        rintro e w1 ⟨rfl, rfl⟩
        have HG := Lib.hid hg
        clear hg
        go_wp2_with fail
        go_roundw
        case rel => exact ⟨k + 1, by omega, by go_num, fun u hu => by
          rw [List.take_add_one, HT.out] at hu
          rcases List.mem_append.1 hu with hu | hu
          · exact HGO.out u hu
          · simp at hu
            rw [hu]
            exact HG.out, hkp⟩
        case measure => simp [intOf]; omega
      · rw [decide_eq_false hg]
        rintro e w1 ⟨rfl, rfl⟩
        have HG := Lib.hid hg
        clear hg
        go_wp2_with fail
        go_ret
        exact ⟨_, rfl, ⟨fun _ => ⟨t, List.mem_of_getElem? HT.out, HG.out⟩, fun _ => by omega⟩, hkp⟩
    · have hfx : l.take k = l := List.take_of_length_le (by omega)
      rw [hfx] at HGO
      clear hfx
      go_wp2_with fail
      go_ret
      exact ⟨_, rfl, ⟨fun h => by omega, fun ⟨t, ht, hb⟩ => absurd (HGO.out t ht) hb⟩, hkp⟩
theorem dcontains_any (l : List Int) (A : Option Addr) (m ca : Nat) (w : World) (hA : RdI .i64 w A m l) (hm : m ≤ 1000000) :
    Calls Tryz.prog 34 #[.slice A m ca, .func (.func 73) #[] #[]] w fun e w' => ∃ r : Bool, e = .returned (.bool r) ∧ (r = true ↔ ∃ d ∈ l, ¬ dOk d) ∧ Kp No w w' := by
  go_enter Tryz.func34, Tryz.ntmps34
  go_wp2_with fail
  refine (dindex_any l A m ca w hA hm).mono ?_
  rintro e w1 ⟨r, rfl, hr, hk⟩
  have HR := Lib.hid hr
  clear hr
  go_wp2_with fail
  go_ret
  exact ⟨_, rfl, by rw [← HR.out]; simp, hk⟩
def sumI : List Int → Int
  | [] => 0
  | x :: l => x + sumI l
theorem sumI_snoc (l : List Int) (x : Int) : sumI (l ++ [x]) = sumI l + x := by
  induction l with
  | nil => simp [sumI]
  | cons y l ih => simp [sumI, ih]; omega
theorem sumI_le : ∀ l : List Int, (∀ x ∈ l, dOk x) → 0 ≤ sumI l ∧ sumI l ≤ 1000000000000 * l.length
  | [], _ => by simp [sumI]
  | x :: l, h => by
    have h1 := h x (by simp)
    have h2 := sumI_le l fun y hy => h y (by simp [hy])
    unfold dOk at h1
    have e : (1000000000000 : Int) * ((x :: l).length : Nat) = 1000000000000 * (l.length : Nat) + 1000000000000 := by simp [Int.mul_add]
    rw [e, sumI]
    omega
theorem info2 : (Tryz.prog.info? 2).map (fun i => (i.zero, i.size, i.bytes)) = some (some (.int .i64 0), 1, 8) := by kernel_rfl
theorem own_some {w : World} {base n : Nat} {e : TypeId} {size : Nat} {v : Value} {xs : List Value} (h : w.ownsRow base e size v n xs) (hn : v = .slice none 0 0 → (Value.slice (some ⟨0, 0, none⟩) 0 0) = .slice none 0 0) : ∃ g cap, v = .slice (some ⟨g, 0, none⟩) n cap := by
  rcases h.2 with ⟨rfl, _⟩ | ⟨g, cap, _, rfl, _⟩
  · exact absurd (hn rfl) (by simp)
  · exact ⟨g, cap, rfl⟩
theorem rdi_news {k : IntKind} {w : World} {A : Option Addr} {n : Nat} {xs : List Int} (h : RdI k w A n xs) : ∀ ad, A = some ad → ∀ j u, (xs.map (Value.int k))[j]? = some u → w.cell? (ad.add j) = some u := by
  intro ad hA j u hj
  rw [List.getElem?_map] at hj
  obtain ⟨x, hx, rfl⟩ := Option.map_eq_some_iff.1 hj
  obtain ⟨b, o, hA2, _, hc⟩ := h.2 j x hx
  rw [hA2] at hA
  cases hA
  rw [add_at]
  exact hc
/-- What 'demands' leaves when all is well. -/
def Dem (w w' : World) (N : Net) (hi : Bool) (ds : List Int) (e : Ending) : Prop := ∃ b sl L d, e = .returned (.tuple #[.pointer (some ⟨b, 0, none⟩), .bool (d == sumI ds), .int .i64 0]) ∧ Web w' w.heap.size b N.n sl L ∧ Pushed (N.lay hi ds) L 0 N.n d ∧ 0 ≤ d ∧
  (d = 120000000000000 ∨ ∃ b m, Lab L 0 b m ∧ Clo (Rs 0 b) L ∧ Rs 0 b N.n = false) ∧ Kp No w w'
attribute [local go_sem ↓] Go.wp_at_zero Go.wp_at_succ
set_option maxHeartbeats 4000000 in
set_option maxRecDepth 100000 in
theorem demands_ok (N : Net) (hN : N.Ok) (A B D : Option Addr) (ca cb dn dc : Nat) (hi : Bool) (ds : List Int) (w : World) (hR : RdNet w A B N) (hD : RdI .i64 w D dn ds) (hnil : D = none → dn = 0 ∧ dc = 0) (hl : ds.length = N.ch.length) (hd : ∀ d ∈ ds, dOk d) :
    Calls Tryz.prog 50 #[netV N A B ca cb, .bool hi, .slice D dn dc] w fun e w' => Dem w w' N hi ds e := by
  obtain ⟨i0, hi0, hz0, hz1, hz2⟩ := info_parts info2
  have hdl := hD.1
  have hc16 := hN.c1
  have hdn : dn = N.ch.length := by omega
  have hb1 : ((dn : Int) == (N.ch.length : Int)) = true := by rw [beq_iff_eq]; omega
  have hb2 : ((dn : Int) != (N.ch.length : Int)) = false := by rw [bne_eq_false_iff_eq]; omega
  have HDN := Lib.hid hdn
  have hdn16 : dn ≤ 16 := by omega
  have H1 := Lib.hid (check_ok N hN A B ca cb)
  have H2 := Lib.hid (fun (D : Option Addr) (dn dc : Nat) w hR hD => filled_any N hN A B D ca cb dn dc hi ds w hR hl (fun d h => by have := hd d h; unfold dOk at this; omega) (.inr hD))
  have HD := Lib.hid hD
  have HDO := Lib.hid hd
  have HNIL := Lib.hid hnil
  have HDL := Lib.hid hdl
  clear hN hD hd hnil hdl hl hdn
  unfold netV at H1 H2 ⊢
  go_enter Tryz.func50, Tryz.ntmps50
  go_wp2_with fail
  have K0 := Lib.hid (Kp.alloc No w (.cells #[.int .i64 N.n, .slice A N.tr.length ca, .slice B N.ch.length cb] 25))
  refine (H1.out _ (hR.no K0.out)).mono ?_
  rintro e w1 ⟨rfl, hk1⟩
  have K1 := Lib.hid (K0.out.tr hk1)
  have b10 := hk1.heap (heap_alloc_new w (.cells #[.int .i64 N.n, .slice A N.tr.length ca, .slice B N.ch.length cb] 25)) (fun h => h)
  have x2 : w1.cell? ⟨w.heap.size, 2, none⟩ = some (.slice B N.ch.length cb) := by rw [cell_of_row w1 _ 2 _ _ _ b10]; rfl
  have B10 := Lib.hid b10
  clear hk1 b10
  go_wp2_with fail
  refine (dcontains_any ds D dn dc w1 (HD.out.no K1.out) (by omega)).mono ?_
  rintro e w2 ⟨r, rfl, hr, hk2⟩
  have hrf : r = false := by
    cases r with
    | false => rfl
    | true =>
      obtain ⟨d, h1, h2⟩ := hr.1 rfl
      exact absurd (HDO.out d h1) h2
  subst hrf
  have K2 := Lib.hid (K1.out.tr hk2)
  have B20 := Lib.hid (hk2.heap B10.out (fun h => h))
  clear hr hk2
  go_wp2_with fail
  go_loopw [10, 32] (fun s i wr => ∃ k : Nat, k ≤ dn ∧ i = .int .i64 k ∧ s = .int .i64 (sumI (ds.take k)) ∧ Kp No w2 wr) (fun _ i _ => dn - (intOf i).toNat)
  case atStart => exact ⟨0, by omega, rfl, rfl, Kp.refl _ _⟩
  case round =>
    obtain ⟨k, hk, rfl, rfl, hkp⟩ := hrel
    have hle := sumI_le (ds.take k) (fun x hx => HDO.out x (List.mem_of_mem_take hx))
    have htl : (ds.take k).length ≤ 16 := by rw [List.length_take]; omega
    by_cases hlt : k < dn
    · obtain ⟨d, hdk⟩ : ∃ d, ds[k]? = some d := ⟨_, List.getElem?_eq_getElem (by have := HDL.out; omega)⟩
      obtain ⟨bb, o, rfl, hbb, y0⟩ := (HD.out.no (K2.out.tr hkp)).2 k d hdk
      have hdd := HDO.out d (List.mem_of_getElem? hdk)
      unfold dOk at hdd
      have HS := Lib.hid (show sumI (ds.take (k + 1)) = sumI (ds.take k) + d by rw [List.take_add_one, hdk]; exact sumI_snoc _ _)
      clear hdk
      generalize sumI (ds.take k) = S at *
      generalize (ds.take k).length = T at *
      go_wp2_with fail
      go_roundw
      case rel => exact ⟨k + 1, by omega, by go_num, by rw [HS.out], hkp⟩
      case measure => simp [intOf]; omega
    · have hfx : ds.take k = ds := List.take_of_length_le (by have := HDL.out; omega)
      rw [hfx] at hle ⊢
      have HSS : Hid (sumI ds = sumI ds) := Lib.hid rfl
      have hsl : sumI ds ≤ 16000000000000 := by
        have := HDL.out
        have : (1000000000000 : Int) * (ds.length : Nat) ≤ 16000000000000 := by omega
        omega
      clear hfx hle htl
      have B30 := Lib.hid (hkp.heap B20.out (fun h => h))
      have z0 : wr.cell? ⟨w.heap.size, 0, none⟩ = some (.int .i64 N.n) := by rw [cell_of_row wr _ 0 _ _ _ B30.out]; rfl
      have z1 : wr.cell? ⟨w.heap.size, 1, none⟩ = some (.slice A N.tr.length ca) := by rw [cell_of_row wr _ 1 _ _ _ B30.out]; rfl
      have z2 : wr.cell? ⟨w.heap.size, 2, none⟩ = some (.slice B N.ch.length cb) := by rw [cell_of_row wr _ 2 _ _ _ B30.out]; rfl
      have K3 := Lib.hid (K2.out.tr hkp)
      have HD3 := Lib.hid (HD.out.no K3.out)
      go_wp2_with fail
      have hHl : w.heap.size < wr.heap.size := (Array.getElem?_eq_some_iff.1 B30.out).1
      have hlD : (ds.map (Value.int .i64)).length = dn * 1 := by have := HDL.out; simp; omega
      have hone := ints_oneCell .i64 ds
      have hnews := fun W hk => rdi_news (HD3.out.no (w' := W) hk)
      have hdnm : 0 + dn ≤ maxLen := by unfold maxLen; omega
      have hdnb : (0 + dn) * 8 ≤ 140737488355328 := by omega
      have HLD := Lib.hid hlD
      have HONE := Lib.hid hone
      have HNEW := Lib.hid hnews
      clear hlD hone hnews
      go_region_held3 (fun w' => w'.cell? ⟨w.heap.size, 0, none⟩ = some (.int .i64 N.n) ∧ w'.cell? ⟨w.heap.size, 1, none⟩ = some (.slice A N.tr.length ca) ∧ w'.cell? ⟨w.heap.size, 2, none⟩ = some (.slice B N.ch.length cb)) (first | exact ⟨c60, c61, c62⟩ | go_keep | exact ⟨hgrow.cell (by go_simp) (by simp [Value.ownBlock]; omega), hgrow.cell (by go_simp) (by simp [Value.ownBlock]; omega), hgrow.cell (by go_simp) (by simp [Value.ownBlock]; omega)⟩)
        ((first | (refine stepS_append (by rfl) _ _ 33 (by rfl) wr.heap.size 2 i0 (.int .i64 0) 1 8 Tryz.underlying33 hi0 hz0 hz1 hz2 (by rfl) (by decide) (.slice (some ⟨wr.heap.size, 0, none⟩) 0 0) 0 [] (by rfl) (own_empty (w := wr.drew) (Nat.le_refl _)) D dn dc (ds.map (Value.int .i64)) (by rfl) HLD.out HNIL.out (HNEW.out _ ((Kp.drew No wr).tr (Kp.alloc No _ _))) HONE.out hdnm hdnb (by simp) dn (Nat.zero_add dn) (ds.map (Value.int .i64)) (List.nil_append _) ?_; intro v5 w5 hown5 hgrow hnz5; obtain ⟨g5, c5, rfl⟩ := own_some hown5 (by simpa using hnz5); have KR5 : Kp No wr w5 := (Kp.refl No wr).trans ((Kp.drew (fun k => wr.heap.size ≤ k) wr).tr ((Kp.alloc _ _ _).tr (Kp.grown hgrow fun k hk _ => by simp [Value.ownBlock] at hk; omega))) (fun k hk h => absurd h (Nat.not_le.2 hk)); have K5 : Kp No w w5 := K3.out.tr KR5; have RI5 : RdI .i64 w5 (some ⟨g5, 0, none⟩) dn ds := RdI.of_own hown5) | (go_at_call 72; have hcall := H2.out (some ⟨g5, 0, none⟩) dn c5 w5 (hR.no K5) ⟨rfl, RI5⟩; refine hcall.mono ?_; clear hcall; rintro e w6 ⟨b, sl, L, d, rfl, hw6, hp6, hd60, hd61, he6, hk6⟩; have c60 := (KR5.tr hk6).cell z0 (fun h => h); have c61 := (KR5.tr hk6).cell z1 (fun h => h); have c62 := (KR5.tr hk6).cell z2 (fun h => h); have HW6 := Lib.hid hw6; have HP6 := Lib.hid hp6; have HE6 := Lib.hid he6; have HK6 := Lib.hid hk6; clear hw6 hp6 he6 hk6)))
      go_wp2_with fail
      refine bodyPost_ret (v := .tuple #[.pointer (some ⟨b, 0, none⟩), .bool (d == sumI ds), .int .i64 0]) (by simp [results, Tryz.results50, go_sem]) rfl ⟨b, sl, L, d, rfl, web_mono HW6.out K5.size, HP6.out, hd60, HE6.out, K5.tr HK6.out⟩
set_option maxHeartbeats 1000000 in
theorem demands_bad (Z : Nz) (c : Int) (hc : ChkIs Z c) (hz : c ≠ 0) (A B D : Option Addr) (ca cb dn dc : Nat) (hi : Bool) (w : World) (hR : RdNz w A B Z) :
    Calls Tryz.prog 50 #[netZ Z A B ca cb, .bool hi, .slice D dn dc] w fun e w' => e = .returned (.tuple #[.pointer none, .bool false, .int .i64 c]) ∧ Kp No w w' := by
  have H1 := Lib.hid (check_bad Z c hc A B ca cb)
  have d1 : (c != 0) = true := by rw [bne_iff_ne]; exact hz
  have d2 : (c == 0) = false := by rw [beq_eq_false_iff_ne]; exact hz
  clear hc hz
  unfold netZ at H1 ⊢
  go_enter Tryz.func50, Tryz.ntmps50
  go_wp2_with fail
  have K0 := Lib.hid (Kp.alloc No w (.cells #[.int .i64 Z.n, .slice A Z.tr.length ca, .slice B Z.ch.length cb] 25))
  refine (H1.out _ (hR.no K0.out)).mono ?_
  rintro e w1 ⟨rfl, hk1⟩
  go_wp2_with fail
  refine bodyPost_ret (v := .tuple #[.pointer none, .bool false, .int .i64 c]) (by simp [results, Tryz.results50, go_sem]) rfl ⟨rfl, K0.out.tr hk1⟩
set_option maxHeartbeats 1000000 in
theorem demands_arg (N : Net) (hN : N.Ok) (A B D : Option Addr) (ca cb dn dc : Nat) (hi : Bool) (ds : List Int) (w : World) (hR : RdNet w A B N) (hD : RdI .i64 w D dn ds) (hb : ¬ (ds.length = N.ch.length ∧ ∀ d ∈ ds, dOk d)) :
    Calls Tryz.prog 50 #[netV N A B ca cb, .bool hi, .slice D dn dc] w fun e w' => e = .returned (.tuple #[.pointer none, .bool false, .int .i64 2]) ∧ Kp No w w' := by
  have hdl := hD.1
  have hc16 := hN.c1
  have H1 := Lib.hid (check_ok N hN A B ca cb)
  have HD := Lib.hid hD
  clear hN hD
  unfold netV at H1 ⊢
  by_cases hl : dn = N.ch.length
  · have hb1 : ((dn : Int) == (N.ch.length : Int)) = true := by rw [beq_iff_eq]; omega
    have hb2 : ((dn : Int) != (N.ch.length : Int)) = false := by rw [bne_eq_false_iff_eq]; omega
    have hbad : ∃ d ∈ ds, ¬ dOk d := Classical.byContradiction fun h => hb ⟨by omega, fun d hd => Classical.byContradiction fun h2 => h ⟨d, hd, h2⟩⟩
    have HBAD := Lib.hid hbad
    have hdn16 : dn ≤ 16 := by omega
    clear hb hbad hl hdl
    go_enter Tryz.func50, Tryz.ntmps50
    go_wp2_with fail
    have K0 := Lib.hid (Kp.alloc No w (.cells #[.int .i64 N.n, .slice A N.tr.length ca, .slice B N.ch.length cb] 25))
    refine (H1.out _ (hR.no K0.out)).mono ?_
    rintro e w1 ⟨rfl, hk1⟩
    have K1 := Lib.hid (K0.out.tr hk1)
    have b10 := hk1.heap (heap_alloc_new w (.cells #[.int .i64 N.n, .slice A N.tr.length ca, .slice B N.ch.length cb] 25)) (fun h => h)
    have x2 : w1.cell? ⟨w.heap.size, 2, none⟩ = some (.slice B N.ch.length cb) := by rw [cell_of_row w1 _ 2 _ _ _ b10]; rfl
    clear hk1 b10
    go_wp2_with fail
    refine (dcontains_any ds D dn dc w1 (HD.out.no K1.out) (by omega)).mono ?_
    rintro e w2 ⟨r, rfl, hr, hk2⟩
    have hrt : r = true := hr.2 HBAD.out
    subst hrt
    clear hr
    go_wp2_with fail
    refine bodyPost_ret (v := .tuple #[.pointer none, .bool false, .int .i64 2]) (by simp [results, Tryz.results50, go_sem]) rfl ⟨rfl, K1.out.tr hk2⟩
  · have hb1 : ((dn : Int) == (N.ch.length : Int)) = false := by rw [beq_eq_false_iff_ne]; omega
    have hb2 : ((dn : Int) != (N.ch.length : Int)) = true := by rw [bne_iff_ne]; omega
    clear hb hl hdl
    go_enter Tryz.func50, Tryz.ntmps50
    go_wp2_with fail
    have K0 := Lib.hid (Kp.alloc No w (.cells #[.int .i64 N.n, .slice A N.tr.length ca, .slice B N.ch.length cb] 25))
    refine (H1.out _ (hR.no K0.out)).mono ?_
    rintro e w1 ⟨rfl, hk1⟩
    have K1 := Lib.hid (K0.out.tr hk1)
    have b10 := hk1.heap (heap_alloc_new w (.cells #[.int .i64 N.n, .slice A N.tr.length ca, .slice B N.ch.length cb] 25)) (fun h => h)
    have x2 : w1.cell? ⟨w.heap.size, 2, none⟩ = some (.slice B N.ch.length cb) := by rw [cell_of_row w1 _ 2 _ _ _ b10]; rfl
    clear hk1 b10
    go_wp2_with fail
    refine bodyPost_ret (v := .tuple #[.pointer none, .bool false, .int .i64 2]) (by simp [results, Tryz.results50, go_sem]) rfl ⟨rfl, K1.out⟩
end Go.Proofs.YtpkbpeeelpgmcaaGreat
