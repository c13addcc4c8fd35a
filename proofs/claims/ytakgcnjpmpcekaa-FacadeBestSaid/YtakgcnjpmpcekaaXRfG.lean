/- Chapter 24: the document's Divided: the walk. Printed by gen_rfg.py. -/
import Derived.Test.YtakgcnjpmpcekaaXLibHxM
namespace Go.Proofs.Ytakgcnjpmpcekaa
open Go.RowKit Go.Kq

theorem set_id {α : Type} {l : List α} {i : Nat} {x : α} (h : l[i]? = some x) : l.set i x = l := by
  refine List.ext_getElem? fun j => ?_
  rw [List.getElem?_set]
  split
  · rename_i e
    subst e
    rw [if_pos (List.getElem?_eq_some_iff.1 h).1, h]
  · rfl
theorem set_two {α : Type} (l : List α) {i j : Nat} (h : i ≠ j) (a b a' b' : α) : (((l.set i a).set j b).set i a').set j b' = (l.set i a').set j b' := by
  rw [List.set_comm _ _ (Ne.symm h), List.set_set, List.set_set]
def mixN (l : List Fc) (ns : List Nat) (i : Nat) : List (List Nat) := (List.range l.length).map fun j => if j < i then fldN l ns j else rawN l.length ns j
theorem mix_zero (l : List Fc) (ns : List Nat) : mixN l ns 0 = partN l.length (rawN l.length ns) ((l.length + 1) / 2) := by
  rw [part_all]
  unfold mixN
  exact List.map_congr_left fun j _ => by rw [if_neg (by omega)]
theorem mix_all (l : List Fc) (ns : List Nat) : mixN l ns l.length = planN l ns := by
  unfold mixN planN
  exact List.map_congr_left fun j hj => by rw [if_pos (List.mem_range.1 hj)]
theorem mix_get {l : List Fc} {ns : List Nat} {i j : Nat} (hj : j < l.length) : (mixN l ns i)[j]? = some (if j < i then fldN l ns j else rawN l.length ns j) := by
  unfold mixN
  rw [List.getElem?_map, List.getElem?_range hj]
  rfl
theorem mix_succ {l : List Fc} {ns : List Nat} {i : Nat} (hi : i < l.length) : (mixN l ns i).set i (fldN l ns i) = mixN l ns (i + 1) := by
  refine List.ext_getElem? fun j => ?_
  rcases Nat.lt_or_ge j l.length with hj | hj
  · rw [List.getElem?_set, mix_get hj, mix_get hj]
    by_cases e : i = j
    · rw [if_pos e, if_pos (by unfold mixN; simp; omega), if_pos (by omega), e]
    · rw [if_neg e]
      by_cases h : j < i
      · rw [if_pos h, if_pos (by omega)]
      · rw [if_neg h, if_neg (by omega)]
  · rw [List.getElem?_eq_none (by rw [List.length_set]; unfold mixN; simp; omega), List.getElem?_eq_none (by unfold mixN; simp; omega)]
theorem intP_rep (n : Nat) : intP (List.replicate n []) = List.replicate n [] := by
  unfold intP
  rw [List.map_replicate]
  rfl
theorem raw_len (L : Nat) (ns : List Nat) (i : Nat) : (rawN L ns i).length = ns.getD (grpN L i) 0 := by
  unfold rawN
  simp
theorem raw_mid {L : Nat} (ns : List Nat) (h : sizN L 0 = 1) (hk : 0 < (L + 1) / 2) : rawN L ns (lefN L 0) = List.range (ns.getD 0 0) := by
  rw [raw_left ns hk, h]
  have : (fun x => atN L ns 0 + 1 * x) = id := funext fun x => by simp [atN]
  rw [this, List.map_id]
set_option maxHeartbeats 16000000 in
set_option maxRecDepth 100000 in
theorem rDivided_any (A B : Option Addr) (n ca m q cb : Nat) (l : List Fc) (nums : List Int) (w : World) (hA : RdF w A n l) (hB : RdI .i64 w B q nums) (hn : n ≤ 12) (hm : m ≤ 60) (hq : q ≤ 100000) (hk : ∀ f ∈ l, 1 ≤ f.k ∧ f.k ≤ 4) :
    Calls Try.prog 23 #[.slice A n ca, .int .i64 (m : Nat), .slice B q cb] w (DivR l m nums w) := by
  have HA := Lib.hid hA
  have HB := Lib.hid hB
  have HLA := Lib.hid hA.1
  have HLB := Lib.hid hB.1
  have HKD := Lib.hid hk
  have hmk := make_rows n (by omega) w
  obtain ⟨ns, hns⟩ : ∃ ns, ns = nums.map Int.toNat := ⟨_, rfl⟩
  have HNS := Lib.hid hns
  have HFAIL := Lib.hid (show ∀ w', Kp No w w' → dvJ n m ((n + 1) / 2) 0 nums = false → DivR l m nums w (.returned (.tuple #[.slice none 0 0, .bool false])) w' from fun w' k h => ⟨k, .inl ⟨by rw [HLA.out]; exact h, rfl⟩⟩)
  have hkm : Kp No w (w.alloc (.cells (Array.replicate n (.slice none 0 0)) 22)) := Kp.alloc _ _ _
  obtain ⟨gr, hgr⟩ : ∃ gr, gr = w.heap.size := ⟨_, rfl⟩
  have hmade : RwM w.heap.size (w.alloc (.cells (Array.replicate n (.slice none 0 0)) 22)) gr n (intP (List.replicate n [])) := by rw [intP_rep, hgr]; exact RwM.made w n w.heap.size (Nat.le_refl _)
  have hD0 : dvJ n m ((n + 1) / 2) 0 nums = dvJ n m ((n + 1) / 2 - 0) (atN n ns 0) (nums.drop 0) := by rw [List.drop_zero]; rfl
  have HD0 := Lib.hid hD0
  have HGR := Lib.hid (show w.heap.size ≤ gr by omega)
  have HATS := Lib.hid (fun k x (h : nums[k]? = some x) => show atN n ns (k + 1) = atN n ns k + sizN n k * x.toNat by rw [hns]; exact at_succ h)
  have HNG := Lib.hid (fun k x (h : nums[k]? = some x) => show ns.getD k 0 = x.toNat by rw [hns]; exact num_get h)
  rw [← hgr] at hmk
  have HM0 := Lib.hid hmade
  have HK0 := Lib.hid hkm
  clear hA hB hk hns hmade hkm hgr hD0
  by_cases hodd : n % 2 = 1
  · have hrem : (n : Int) % 2 = 1 := by omega
    have hk0 : 0 < (n + 1) / 2 := by omega
    have hs0 : sizN n 0 = 1 := by unfold sizN lefN; rw [if_pos (by omega)]
    rcases Nat.lt_or_ge 0 q with hq0 | hq0
    rotate_left
    · have HF := Lib.hid (show dvJ n m ((n + 1) / 2) 0 nums = false by rw [HD0.out]; exact dvJ_short hk0 (by rw [HLB.out]; omega))
      clear hs0
      have hq00 : (q : Int) = 0 := by omega
      go_enter Try.func23, Try.ntmps23
      go_wp2_with fail
      exact bodyPost_ret (v := .tuple #[.slice none 0 0, .bool false]) (by simp [results, Try.results23, go_sem]) rfl (HFAIL.out _ HK0.out HF.out)
    obtain ⟨x, hx⟩ : ∃ x, nums[0]? = some x := ⟨_, List.getElem?_eq_getElem (by rw [HLB.out]; exact hq0)⟩
    have hst := dvJ_step (n := m) (at_ := atN n ns 0) hk0 hx
    rw [hs0, Nat.one_mul] at hst
    have HST := Lib.hid hst
    have HX := Lib.hid hx
    obtain ⟨bb, ob, rfl, hbb, hcb⟩ := (HB.out.no HK0.out).2 0 x hx
    have hq0i : ¬ (q : Int) = 0 := by omega
    have d0 : ((q : Int) == 0) = false := by simp; omega
    rw [Nat.add_zero] at hcb
    clear hst hx
    by_cases hx1 : x < 1
    · have HF := Lib.hid (show dvJ n m ((n + 1) / 2) 0 nums = false by rw [HD0.out, HST.out]; simp; omega)
      go_enter Try.func23, Try.ntmps23
      go_wp2_with fail
      exact bodyPost_ret (v := .tuple #[.slice none 0 0, .bool false]) (by simp [results, Try.results23, go_sem]) rfl (HFAIL.out _ HK0.out HF.out)
    by_cases hxm : (m : Int) < x
    · have HF := Lib.hid (show dvJ n m ((n + 1) / 2) 0 nums = false by
        rw [HD0.out, HST.out]
        have h2 : decide (atN n ns 0 + x.toNat ≤ m) = false := by simp [atN]; omega
        rw [h2, Bool.and_false, Bool.false_and])
      go_enter Try.func23, Try.ntmps23
      go_wp2_with fail
      exact bodyPost_ret (v := .tuple #[.slice none 0 0, .bool false]) (by simp [results, Try.results23, go_sem]) rfl (HFAIL.out _ HK0.out HF.out)
    obtain ⟨X0, rfl⟩ : ∃ X0 : Nat, x = X0 := ⟨x.toNat, by omega⟩
    have HD1 := Lib.hid (show dvJ n m ((n + 1) / 2) 0 nums = dvJ n m ((n + 1) / 2 - 1) (atN n ns 1) (nums.drop 1) by
      have h := HATS.out 0 X0 HX.out
      rw [hs0, Nat.one_mul] at h
      rw [HD0.out, HST.out, ← h]
      have h1 : decide ((1 : Int) ≤ (X0 : Int)) = true := by simp; omega
      have h2 : decide (atN n ns 1 ≤ m) = true := by rw [h]; simp [atN]; omega
      rw [h1, h2]
      rfl)
    have HA1 := Lib.hid (show atN n ns 1 = X0 by rw [HATS.out 0 X0 HX.out, hs0]; simp [atN])
    have HG0 := Lib.hid (show ns.getD 0 0 = X0 by rw [HNG.out 0 X0 HX.out]; simp)
    obtain ⟨md, hmd⟩ : ∃ md, md = lefN n 0 := ⟨_, rfl⟩
    have hmdi : (n : Int) / 2 = (md : Int) := by rw [hmd]; unfold lefN; omega
    have hmdn : md < n := by rw [hmd]; unfold lefN; omega
    have HMD := Lib.hid (show n - 1 - lefN n 0 = md by rw [hmd]; unfold lefN; omega)
    have HMD0 := Lib.hid hmd
    have HP0 := Lib.hid (show (intP (List.replicate n []))[md]? = some [] by rw [intP_rep, List.getElem?_replicate, if_pos hmdn])
    have HS0 := Lib.hid hs0
    have hx60 : X0 ≤ m := by omega
    clear hmd hs0 hk0 HST
    go_enter Try.func23, Try.ntmps23
    go_wp2_with fail
    clear hmk hbb
    have HCB := Lib.hid ((HB.out).2 0 X0 HX.out)
    go_loopw [12] (fun i wr => ∃ t : Nat, t ≤ X0 ∧ i = .int .i64 (t : Nat) ∧ RwM w.heap.size wr gr n ((intP (List.replicate n [])).set md (cI (List.range t))) ∧ Kp No w wr) (fun i _ => X0 - (intOf i).toNat)
    case atStart => exact ⟨0, by omega, rfl, by rw [show cI (List.range 0) = [] from rfl, set_id HP0.out]; exact HM0.out, HK0.out⟩
    case round =>
      obtain ⟨t, ht, rfl, hrw, hkp⟩ := hrel
      have HRW := Lib.hid hrw
      have HKP := Lib.hid hkp
      have hcb := hkp.cell (show w.cell? ⟨bb, ob, none⟩ = some (.int .i64 X0) by
        obtain ⟨b9, o9, e9, _, c9⟩ := HCB.out
        injection e9 with e9
        injection e9 with e1 e2
        subst e1 e2
        rw [Nat.add_zero] at c9
        exact c9) id
      clear hrw hkp
      by_cases hlt : t < X0
      · have hrow : ((intP (List.replicate n [])).set md (cI (List.range t)))[md]? = some (cI (List.range t)) := List.getElem?_set_self (by rw [intP_rep, List.length_replicate]; exact hmdn)
        obtain ⟨v, d4, d5, hov, _, hgl⟩ := HRW.out.cell hrow
        have hzl : (cI (List.range t)).length = t := by rw [cI_len, List.length_range]
        obtain ⟨A1, c1, rfl, hc1, _, _⟩ := own_form hov
        rw [hzl] at d4
        have HOV := Lib.hid hov
        rw [hzl] at HOV
        have HZL := Lib.hid hzl
        have HROW := Lib.hid hrow
        have D4 := Lib.hid d4
        clear hov hzl hrow
        go_wp2_with (at_builtin; refine stop_in ?_)
        refine stop_out ?_
        refine push_int rfl _ _ rfl w.heap.size A1 t c1 (cI (List.range t)) (t : Int) rfl rfl rfl HZL.out HOV.out (by omega) HKP.out (Nat.le_refl _) HKP.out.size ?_
        intro g' c' w' ho' _ hkat
        obtain ⟨k', hat'⟩ := hkat
        obtain ⟨r1, r2, ⟨u9, d6⟩, d7⟩ := rw_push HKP.out HRW.out HROW.out D4.out HOV.out ho' k' hat'
        rw [List.set_set] at r1
        have R1 := Lib.hid r1
        have R2 := Lib.hid r2
        clear r1 r2 ho' k' hat' d4 d5
        go_wp2_with fail
        go_roundw
        case rel => exact ⟨t + 1, by omega, by go_num, by rw [List.range_succ, cI_snoc]; exact R1.out, R2.out⟩
        case measure => simp [intOf]; omega
      · obtain rfl : X0 = t := by omega
        have HRW2 := Lib.hid (show RwM w.heap.size wr gr n (intP (partN n (rawN n ns) 1)) by
          have e := part_step (L := n) (k := 0) (rawN n ns) (by omega)
          rw [HMD.out, ← HMD0.out, List.set_set, part_zero, HMD0.out, raw_mid ns HS0.out (by omega), ← HMD0.out, HG0.out] at e
          rw [← e, intP_set]
          exact HRW.out)
        have HB1 := Lib.hid (show ∀ t, t < 1 → ns.getD t 0 ≤ 60 from fun t h => by
          obtain rfl : t = 0 := by omega
          rw [HG0.out]
          omega)
        have hH : (n : Int) / 2 - 1 = (((n + 1) / 2 : Nat) : Int) - 1 - ((1 : Nat) : Int) := by omega
        have hA1e := HA1.out
        have hAm : atN n ns 1 ≤ m := by omega
        have hAi : ((X0 : Nat) : Int) = ((atN n ns 1 : Nat) : Int) := by rw [HA1.out]
        have hP := Lib.hid (show ∀ k, 1 ≤ k → ¬ lefN n k = n - 1 - lefN n k ∨ (n + 1) / 2 ≤ k from fun k h => by unfold lefN; omega)
        have HDS := HD1
        have hKq : 1 ≤ q := by omega
        clear HRW HD1 HMD HMD0 HP0 HS0 hA1e
        go_wp2_with fail
        clear HCB hcb HG0 HA1 HX
        generalize (some (⟨bb, ob, none⟩ : Addr)) = B at *
        obtain ⟨ws, rfl⟩ : ∃ ws, ws = wr := ⟨_, rfl⟩
        obtain ⟨H, hH0⟩ : ∃ H, H = (n + 1) / 2 := ⟨_, rfl⟩
        rw [← hH0] at hH HDS hP HFAIL
        have HHE := Lib.hid hH0
        have hHb : n ≤ 2 * H ∧ 2 * H ≤ n + 1 := by omega
        clear hH0 hrem
        go_loopw [9, 10, 13] (fun a k lf wr => ∃ kk : Nat, 1 ≤ kk ∧ kk ≤ H ∧ kk ≤ q ∧ a = .int .i64 ((atN n ns kk : Nat) : Int) ∧ k = .int .i64 (kk : Nat) ∧ lf = .int .i64 ((H : Int) - 1 - (kk : Int)) ∧ atN n ns kk ≤ m ∧ dvJ n m H 0 nums = dvJ n m (H - kk) (atN n ns kk) (nums.drop kk) ∧ (∀ t, t < kk → ns.getD t 0 ≤ 60) ∧ RwM w.heap.size wr gr n (intP (partN n (rawN n ns) kk)) ∧ Kp No w wr) (fun _ k _ _ => 100 - (intOf k).toNat)
        case atStart => exact ⟨1, by omega, by omega, by omega, (by first | rfl | exact congrArg (Value.int .i64) hAi), rfl, (by congr 1; omega), hAm, HDS.out, HB1.out, HRW2.out, HKP.out⟩
        case round =>
          clear hAi hH hAm HDS HB1 HRW2 HKP
          obtain ⟨wo, rfl⟩ : ∃ wo, wo = wr := ⟨_, rfl⟩
          obtain ⟨kk, hK, hkH, hkq, rfl, rfl, rfl, hat, hdv, hns60, hrw, hkp⟩ := hrel
          have HDV := Lib.hid hdv
          have HN60 := Lib.hid hns60
          have HRW := Lib.hid hrw
          have HKP := Lib.hid hkp
          clear hdv hns60 hrw hkp
          by_cases hlt : kk < H
          · have hkl : kk < (n + 1) / 2 := by rw [← HHE.out]; exact hlt
            have hll := lef_lt hkl
            obtain ⟨lf, hlf⟩ : ∃ lf, lf = lefN n kk := ⟨_, rfl⟩
            obtain ⟨rg, hrg⟩ : ∃ rg, rg = n - 1 - lefN n kk := ⟨_, rfl⟩
            have hlfi : (H : Int) - 1 - (kk : Int) = (lf : Int) := by rw [hlf]; unfold lefN; rw [← HHE.out]; omega
            have hrgi : (n : Int) - 1 - (lf : Int) = (rg : Int) := by rw [hrg, ← hlf]; omega
            have hne : lf ≠ rg := by
              rcases hP.out kk hK with h | h
              · rw [hlf, hrg]; exact h
              · omega
            have hs2 : sizN n kk = 2 := by unfold sizN; rw [if_neg (by rw [← hrg, ← hlf]; exact hne)]
            have HL0 := Lib.hid (show (intP (partN n (rawN n ns) kk))[lf]? = some [] from by
              have h := part_get (L := n) (rawN n ns) kk (i := lf) (by omega)
              rw [if_neg (by rw [hlf, (grp_iff hll.1 hkl).2 (.inl rfl)]; omega)] at h
              exact intP_get h)
            have HR0 := Lib.hid (show (intP (partN n (rawN n ns) kk))[rg]? = some [] from by
              have h := part_get (L := n) (rawN n ns) kk (i := rg) (by omega)
              rw [if_neg (by rw [hrg, (grp_iff hll.2.1 hkl).2 (.inr rfl)]; omega)] at h
              exact intP_get h)
            have hrl := raw_left ns hkl
            have hrr := raw_right (L := n) ns hkl (by omega)
            have hps := part_step (rawN n ns) hkl
            rw [hs2, ← hlf] at hrl
            rw [hs2, ← hrg] at hrr
            rw [← hrg, ← hlf, hrl, hrr] at hps
            have HPS := Lib.hid hps
            have hlfn : lf < n := by omega
            have hrgn : rg < n := by omega
            have HPLN := Lib.hid (show (intP (partN n (rawN n ns) kk)).length = n from HRW.out.hl)
            rcases Nat.lt_or_ge kk q with hkq2 | hkq2
            rotate_left
            · have HF := Lib.hid (show dvJ n m H 0 nums = false by
                rw [HDV.out, HHE.out]
                exact dvJ_short hkl (by rw [HLB.out]; exact hkq2))
              clear hrl hrr hps hll hs2 hlf hrg
              go_wp2_with fail
              exact bodyPost_ret (v := .tuple #[.slice none 0 0, .bool false]) (by simp [results, Try.results23, go_sem]) rfl (HFAIL.out _ HKP.out HF.out)
            obtain ⟨x, hx⟩ : ∃ x, nums[kk]? = some x := ⟨_, List.getElem?_eq_getElem (by rw [HLB.out]; exact hkq2)⟩
            have hst := dvJ_step (n := m) (at_ := atN n ns kk) hkl hx
            have hat1 := HATS.out kk x hx
            rw [hs2] at hst hat1
            rw [← HHE.out] at hst
            have HNX := Lib.hid (HNG.out kk x hx)
            have HST := Lib.hid hst
            have HAT1 := Lib.hid hat1
            obtain ⟨bb, ob, rfl, hbb, hcw⟩ := HB.out.2 kk x hx
            have HCW := Lib.hid hcw
            have hcb := HKP.out.cell hcw id
            have hbb2 := World.block_lt_of_cell? _ _ hcb
            clear hst hat1 hx hrl hrr hps hll hs2 hlf hrg hcw hbb hkl
            generalize atN n ns kk = a0 at *
            by_cases hx1 : x < 1
            · have HF := Lib.hid (show dvJ n m H 0 nums = false by
                rw [HDV.out, HST.out]
                have : decide (1 ≤ x) = false := by simp; omega
                rw [this, Bool.false_and, Bool.false_and])
              go_wp2_with fail
              exact bodyPost_ret (v := .tuple #[.slice none 0 0, .bool false]) (by simp [results, Try.results23, go_sem]) rfl (HFAIL.out _ HKP.out HF.out)
            by_cases hxm : ((m : Int) - (a0 : Int)) / 2 < x
            · have HF := Lib.hid (show dvJ n m H 0 nums = false by
                rw [HDV.out, HST.out]
                have : decide (a0 + 2 * x.toNat ≤ m) = false := by simp; omega
                rw [this, Bool.and_false, Bool.false_and])
              go_wp2_with fail
              exact bodyPost_ret (v := .tuple #[.slice none 0 0, .bool false]) (by simp [results, Try.results23, go_sem]) rfl (HFAIL.out _ HKP.out HF.out)
            obtain ⟨X, rfl⟩ : ∃ X : Nat, x = X := ⟨x.toNat, by omega⟩
            rw [Int.toNat_natCast] at HST HAT1 HNX
            rw [HNX.out] at HPS
            have hxb : a0 + 2 * X ≤ m := by omega
            have HDV2 := Lib.hid (show dvJ n m H 0 nums = dvJ n m (H - (kk + 1)) (a0 + 2 * X) (nums.drop (kk + 1)) by
              rw [HDV.out, HST.out]
              have h1 : decide ((1 : Int) ≤ (X : Int)) = true := by simp; omega
              have h2 : decide (a0 + 2 * X ≤ m) = true := by simp; omega
              rw [h1, h2]
              rfl)
            have HPN := Lib.hid (show intP (partN n (rawN n ns) (kk + 1)) = ((intP (partN n (rawN n ns) kk)).set lf (cI ((List.range X).map fun x => a0 + 2 * x))).set rg (cI ((List.range X).map fun x => a0 + 2 * x + 1)) by rw [← HPS.out, intP_set, intP_set])
            generalize intP (partN n (rawN n ns) kk) = P at *
            clear HPS HST HDV
            go_wp2_with fail
            go_loopw [15] (fun i wr => ∃ t : Nat, t ≤ X ∧ i = .int .i64 (t : Nat) ∧ RwM w.heap.size wr gr n ((P.set lf (cI ((List.range t).map fun x => a0 + 2 * x))).set rg (cI ((List.range t).map fun x => a0 + 2 * x + 1))) ∧ Kp No w wr) (fun i _ => X - (intOf i).toNat)
            case atStart =>
              refine ⟨0, by omega, rfl, ?_, HKP.out⟩
              rw [show cI ((List.range 0).map fun x => a0 + 2 * x) = [] from rfl, show cI ((List.range 0).map fun x => a0 + 2 * x + 1) = [] from rfl, set_id HL0.out, set_id HR0.out]
              exact HRW.out
            case round =>
              obtain ⟨t, ht, rfl, hrw, hkp⟩ := hrel
              have HRW3 := Lib.hid hrw
              have HKP3 := Lib.hid hkp
              have hcb3 := hkp.cell HCW.out id
              have hbb3 := World.block_lt_of_cell? _ _ hcb3
              clear hrw hkp
              by_cases hlt3 : t < X
              · have hrow : ((P.set lf (cI ((List.range t).map fun x => a0 + 2 * x))).set rg (cI ((List.range t).map fun x => a0 + 2 * x + 1)))[lf]? = some (cI ((List.range t).map fun x => a0 + 2 * x)) := by
                  rw [List.getElem?_set_ne (Ne.symm hne), List.getElem?_set_self (by rw [HPLN.out]; exact hlfn)]
                obtain ⟨v, d4, d5, hov, _, hgl⟩ := HRW3.out.cell hrow
                have hzl : (cI ((List.range t).map fun x => a0 + 2 * x)).length = t := by rw [cI_len, List.length_map, List.length_range]
                obtain ⟨A1, c1, rfl, hc1, _, _⟩ := own_form hov
                rw [hzl] at d4
                have HOV := Lib.hid hov
                rw [hzl] at HOV
                have HZL := Lib.hid hzl
                have HROW := Lib.hid hrow
                have D4 := Lib.hid d4
                have hm1 : (a0 : Int) + 2 * (t : Int) = ((a0 + 2 * t : Nat) : Int) := by simp
                obtain ⟨y0, hy0⟩ : ∃ y0, y0 = a0 + 2 * t := ⟨_, rfl⟩
                have HSN := Lib.hid (show cI ((List.range (t + 1)).map fun x => a0 + 2 * x) = cI ((List.range t).map fun x => a0 + 2 * x) ++ [(y0 : Int)] by rw [range_snoc, hy0])
                have HSN1 := Lib.hid (show cI ((List.range (t + 1)).map fun x => a0 + 2 * x + 1) = cI ((List.range t).map fun x => a0 + 2 * x + 1) ++ [((y0 : Int) + 1)] by rw [range_snoc, hy0]; rfl)
                rw [← hy0] at hm1
                have hyb : y0 ≤ 120 := by omega
                have hm3 : (a0 : Int) + 2 * (t : Int) + 1 = (y0 : Int) + 1 := by omega
                clear hov hzl hrow hy0
                go_wp2_with (at_builtin; refine stop_in ?_)
                refine stop_out ?_
                refine push_int rfl _ _ rfl w.heap.size A1 t c1 (cI ((List.range t).map fun x => a0 + 2 * x)) (y0 : Int) rfl rfl rfl HZL.out HOV.out (by omega) HKP3.out (Nat.le_refl _) HKP3.out.size ?_
                intro g' c' w' ho' _ hkat
                obtain ⟨k', hat'⟩ := hkat
                rw [← HSN.out] at ho'
                obtain ⟨r1, r2, ⟨u9, d6⟩, d7⟩ := rw_push HKP3.out HRW3.out HROW.out D4.out HOV.out ho' k' hat'
                have hc4 := r2.cell HCW.out id
                have R1 := Lib.hid r1
                have R2 := Lib.hid r2
                clear r1 r2 ho' k' hat' d4 d5 hcb3 hbb3
                obtain ⟨w5, hw5⟩ : ∃ w5, w'.setCell ⟨gr, lf, none⟩ (.slice (some ⟨g', 0, none⟩) (t + 1) c') = w5 := ⟨_, rfl⟩
                rw [hw5] at R1 R2 hc4
                have hrow : (((P.set lf (cI ((List.range t).map fun x => a0 + 2 * x))).set rg (cI ((List.range t).map fun x => a0 + 2 * x + 1))).set lf (cI ((List.range (t + 1)).map fun x => a0 + 2 * x)))[rg]? = some (cI ((List.range t).map fun x => a0 + 2 * x + 1)) := by
                  rw [List.getElem?_set_ne hne, List.getElem?_set_self (by rw [List.length_set, HPLN.out]; exact hrgn)]
                obtain ⟨v, d4, d5, hov, _, hgl5⟩ := R1.out.cell hrow
                have hzl : (cI ((List.range t).map fun x => a0 + 2 * x + 1)).length = t := by rw [cI_len, List.length_map, List.length_range]
                obtain ⟨A2, c2, rfl, hc2, _, _⟩ := own_form hov
                rw [hzl] at d4
                have HOV2 := Lib.hid hov
                rw [hzl] at HOV2
                have HZL2 := Lib.hid hzl
                have HROW2 := Lib.hid hrow
                have D42 := Lib.hid d4
                clear hov hzl hrow
                go_wp2_with (at_builtin; refine stop_in ?_)
                refine stop_out ?_
                refine push_int rfl _ _ rfl w.heap.size A2 t c2 (cI ((List.range t).map fun x => a0 + 2 * x + 1)) ((y0 : Int) + 1) rfl rfl rfl HZL2.out HOV2.out (by omega) R2.out (Nat.le_refl _) R2.out.size ?_
                intro g2 c2' w6 ho2 _ hkat
                obtain ⟨k2, hat2⟩ := hkat
                rw [← HSN1.out] at ho2
                obtain ⟨r3, r4, ⟨u8, e6⟩, e7⟩ := rw_push R2.out R1.out HROW2.out D42.out HOV2.out ho2 k2 hat2
                rw [set_two _ hne] at r3
                have R3 := Lib.hid r3
                have R4 := Lib.hid r4
                clear r3 r4 ho2 k2 hat2 d4 d5 hc4 hw5 d6 d7
                go_wp2_with fail
                go_roundw
                case rel => exact ⟨t + 1, by omega, by go_num, R3.out, R4.out⟩
                case measure => simp [intOf]; omega
              · obtain rfl : X = t := by omega
                have HRW4 := Lib.hid (show RwM w.heap.size wr gr n (intP (partN n (rawN n ns) (kk + 1))) by rw [HPN.out]; exact HRW3.out)
                have HN61 := Lib.hid (show ∀ t, t < kk + 1 → ns.getD t 0 ≤ 60 from fun t h => by
                  rcases Nat.lt_or_ge t kk with h1 | h1
                  · exact HN60.out t h1
                  · obtain rfl : t = kk := by omega
                    rw [HNX.out]
                    omega)
                clear HRW3 HPN
                go_wp2_with fail
                go_roundw
                case rel => exact ⟨kk + 1, by omega, by omega, by omega, by rw [HAT1.out]; go_num, by go_num, by congr 1; omega, by rw [HAT1.out]; exact hxb, by rw [HAT1.out]; exact HDV2.out, HN61.out, HRW4.out, HKP3.out⟩
                case measure => simp [intOf]; omega
          · obtain rfl : H = kk := by omega
            have HDE := Lib.hid (show dvJ n m H 0 nums = (decide (atN n ns H = m) && decide (H = q)) by rw [HDV.out, Nat.sub_self, dvJ_end (by rw [HLB.out]; exact hkq), HLB.out])
            clear HDV
            generalize atN n ns H = aH at *
            by_cases hE1 : aH = m
            rotate_left
            · have d1 : ((aH : Int) != (m : Int)) = true := by simp; omega
              have HF := Lib.hid (show dvJ n m H 0 nums = false by rw [HDE.out]; simp [hE1])
              clear hE1
              go_wp2_with fail
              exact bodyPost_ret (v := .tuple #[.slice none 0 0, .bool false]) (by simp [results, Try.results23, go_sem]) rfl (HFAIL.out _ HKP.out HF.out)
            have d1 : ((aH : Int) != (m : Int)) = false := by simp; omega
            by_cases hE2 : H = q
            rotate_left
            · have d2 : ((H : Int) != (q : Int)) = true := by simp; omega
              have HF := Lib.hid (show dvJ n m H 0 nums = false by rw [HDE.out]; simp [hE2])
              clear hE1 hE2
              go_wp2_with fail
              exact bodyPost_ret (v := .tuple #[.slice none 0 0, .bool false]) (by simp [results, Try.results23, go_sem]) rfl (HFAIL.out _ HKP.out HF.out)
            have d2 : ((H : Int) != (q : Int)) = false := by simp; omega
            have HT := Lib.hid (show dvJ n m H 0 nums = true by rw [HDE.out]; simp [hE1, hE2])
            have HMX := Lib.hid (show RwM w.heap.size wo gr n (intP (mixN l ns 0)) by rw [mix_zero, HLA.out, ← HHE.out]; exact HRW.out)
            have hHn := hHb
            clear hE1 hE2 HRW hP hHb
            go_wp2_with fail
            go_loopw [16] (fun i wr => ∃ i1 : Nat, i1 ≤ n ∧ i = .int .i64 (i1 : Nat) ∧ RwM w.heap.size wr gr n (intP (mixN l ns i1)) ∧ Kp No w wr) (fun i _ => n - (intOf i).toNat)
            case atStart => exact ⟨0, by omega, rfl, HMX.out, HKP.out⟩
            case round =>
              obtain ⟨w4, rfl⟩ : ∃ w4, w4 = wr := ⟨_, rfl⟩
              obtain ⟨i1, hi1, rfl, hrw, hkp⟩ := hrel
              have HRW4 := Lib.hid hrw
              have HKP4 := Lib.hid hkp
              clear hrw hkp
              by_cases hlt4 : i1 < n
              · obtain ⟨f, hf⟩ : ∃ f, l[i1]? = some f := ⟨_, List.getElem?_eq_getElem (by rw [HLA.out]; exact hlt4)⟩
                obtain ⟨cnt, hcnt⟩ : ∃ cnt, cnt = ns.getD (grpN n i1) 0 := ⟨_, rfl⟩
                obtain ⟨Rw, hRw⟩ : ∃ Rw, Rw = rawN n ns i1 := ⟨_, rfl⟩
                have hc60 : cnt ≤ 60 := by rw [hcnt]; exact HN60.out _ (by rw [HHE.out]; exact grp_lt hlt4)
                have hrl : Rw.length = cnt := by rw [hRw, raw_len, hcnt]
                obtain ⟨rb, hrb⟩ : ∃ rb, rb = rgtB n i1 := ⟨_, rfl⟩
                have hrbd : decide ((n : Int) - 1 < 2 * (i1 : Int)) = rb := by rw [hrb]; unfold rgtB; rw [decide_eq_decide]; omega
                obtain ⟨T, hT⟩ : ∃ T, T = staN cnt f.k rb := ⟨_, rfl⟩
                have HTL := Lib.hid (show (cI T).length = cnt by rw [cI_len, hT, sta_len])
                have HTLT := Lib.hid (show ∀ x ∈ T, x < cnt from fun x hx => sta_lt (by rw [← hT]; exact hx))
                have HFLD := Lib.hid (show fldN l ns i1 = T.map fun x => Rw.getD x 0 by
                  rw [fld_raw, HLA.out, getD_at hf, ← hcnt, ← hRw, ← hrb, ← hT])
                have hrow : (intP (mixN l ns i1))[i1]? = some (cI Rw) := by
                  have h := mix_get (l := l) (ns := ns) (i := i1) (j := i1) (by rw [HLA.out]; exact hlt4)
                  rw [if_neg (by omega), HLA.out, ← hRw] at h
                  exact intP_get h
                have HMS := Lib.hid (show (intP (mixN l ns i1)).set i1 (cI (fldN l ns i1)) = intP (mixN l ns (i1 + 1)) by
                  rw [← intP_set, mix_succ (by rw [HLA.out]; exact hlt4)])
                obtain ⟨v, d4, d5, hov, _, hgl⟩ := HRW4.out.cell hrow
                obtain ⟨Av, cv, rfl, hcv, _, hfv⟩ := own_form hov
                rw [cI_len, hrl] at d4 hfv
                have HOV := Lib.hid hov
                have HFV := Lib.hid hfv
                have HRL := Lib.hid hrl
                have HROW := Lib.hid hrow
                have D4 := Lib.hid d4
                have D5 := Lib.hid d5
                have STC := Lib.hid (fun w0 => stands_any cnt f.k rb w0 hc60 (HKD.out f (List.mem_of_getElem? hf)))
                rw [← hT] at STC
                obtain ⟨b0, o0, rfl, hb0, c0, c1⟩ := rdf_at (HA.out.no HKP4.out) hf
                obtain ⟨fw, fk⟩ := f
                dsimp only at *
                have q1 : IntKind.i64.wrap (2 * (i1 : Int)) = 2 * (i1 : Int) := by rw [IntKind.wrap_i64]; omega
                have q2 : IntKind.i64.wrap ((n : Int) - 1) = (n : Int) - 1 := by rw [IntKind.wrap_i64]; omega
                clear hT hrb hRw hcnt hrow hov hfv hrl hf c0 d5
                go_wp2_with fail
                have FS : Stab (fun ix wz u => (ix = 16 → RwF cnt (cI T) wz u) ∧ (ix = 17 → RwF cnt (cI T) wz u) ∧ True) := fun ix u wz wz' kz h => ⟨fun e => RwF.no (h.1 e) kz, fun e => RwF.no (h.2.1 e) kz, trivial⟩
                replace FS := Lib.hid FS
                refine wp_region_each (fun ix uR => match ix with | 0 => uR = .slice (some ⟨gr, 0, none⟩) n n | 1 => uR = .int .i64 (i1 : Nat) | 2 => uR = .pointer (some ⟨gr, i1, none⟩) | 3 => uR = .slice Av cnt cv | 4 => uR = .int .i64 (cnt : Nat) | 5 => uR = .slice (some ⟨b0, o0, none⟩) n ca | 6 => uR = .int .i64 (i1 : Nat) | 7 => uR = .pointer (some ⟨b0, o0 + i1 * 2, none⟩) | 8 => uR = .pointer (some ⟨b0, o0 + i1 * 2 + 1, none⟩) | 9 => uR = .int .i64 fk | 10 => uR = .int .i64 (i1 : Nat) | 11 => uR = .int .i64 (2 * (i1 : Int)) | 12 => uR = .slice (some ⟨b0, o0, none⟩) n ca | 13 => uR = .int .i64 (n : Nat) | 14 => uR = .int .i64 ((n : Int) - 1) | 15 => uR = .bool rb | _ => True) (HvW w4 (fun ix wz u => (ix = 16 → RwF cnt (cI T) wz u) ∧ (ix = 17 → RwF cnt (cI T) wz u) ∧ True)) (by kernel_rfl) (by kernel_rfl) (by kernel_rfl) ?_ ?_ ?_
                · exact HvW.start _ _
                · refine ⟨?_, ?_, ?_, ?_, ?_, ?_, ?_, ?_, ?_, ?_, ?_, ?_, ?_, ?_, ?_, ?_, ?_, ?_, trivial⟩
                  · intro r a w' hf hg hW hr hd K hK
                    refine wpOp_of rfl rfl ?_
                    have e0 : a.tmps.getD 8 undef = .slice (some ⟨gr, 0, none⟩) n n := hf.evalFree (by kernel_rfl)
                    go_simp
                    exact hK _ _ rfl (hW.upd 0 _ ⟨fun e => absurd e (by decide), fun e => absurd e (by decide), trivial⟩)
                  · intro r a w' hf hg hW hr hd K hK
                    refine wpOp_of rfl rfl ?_
                    have e0 : a.tmps.getD 16 undef = .int .i64 (i1 : Nat) := hf.evalFree (by kernel_rfl)
                    go_simp
                    exact hK _ _ rfl (hW.upd 1 _ ⟨fun e => absurd e (by decide), fun e => absurd e (by decide), trivial⟩)
                  · intro r a w' hf hg hW hr hd K hK
                    refine wpOp_of rfl rfl ?_
                    refine hf.depE hg hd 0 160 (by kernel_rfl) fun u0 e0 g0 h0 => ?_
                    replace g0 : u0 = .slice (some ⟨gr, 0, none⟩) n n := g0
                    subst g0
                    refine hf.depE hg hd 1 161 (by kernel_rfl) fun u1 e1 g1 h1 => ?_
                    replace g1 : u1 = .int .i64 (i1 : Nat) := g1
                    subst g1
                    go_simp
                    exact hK _ _ rfl (hW.upd 2 _ ⟨fun e => absurd e (by decide), fun e => absurd e (by decide), trivial⟩)
                  · intro r a w' hf hg hW hr hd K hK
                    refine wpOp_of rfl rfl ?_
                    refine hf.depE hg hd 2 162 (by kernel_rfl) fun u0 e0 g0 h0 => ?_
                    replace g0 : u0 = .pointer (some ⟨gr, i1, none⟩) := g0
                    subst g0
                    have z0 := hW.kp.cell D4.out id
                    go_simp
                    exact hK _ _ rfl (hW.upd 3 _ ⟨fun e => absurd e (by decide), fun e => absurd e (by decide), trivial⟩)
                  · intro r a w' hf hg hW hr hd K hK
                    refine wpOp_of rfl rfl ?_
                    refine hf.depE hg hd 3 163 (by kernel_rfl) fun u0 e0 g0 h0 => ?_
                    replace g0 : u0 = .slice Av cnt cv := g0
                    subst g0
                    go_simp
                    exact hK _ _ rfl (hW.upd 4 _ ⟨fun e => absurd e (by decide), fun e => absurd e (by decide), trivial⟩)
                  · intro r a w' hf hg hW hr hd K hK
                    refine wpOp_of rfl rfl ?_
                    have e0 : a.tmps.getD 0 undef = .slice (some ⟨b0, o0, none⟩) n ca := hf.evalFree (by kernel_rfl)
                    go_simp
                    exact hK _ _ rfl (hW.upd 5 _ ⟨fun e => absurd e (by decide), fun e => absurd e (by decide), trivial⟩)
                  · intro r a w' hf hg hW hr hd K hK
                    refine wpOp_of rfl rfl ?_
                    have e0 : a.tmps.getD 16 undef = .int .i64 (i1 : Nat) := hf.evalFree (by kernel_rfl)
                    go_simp
                    exact hK _ _ rfl (hW.upd 6 _ ⟨fun e => absurd e (by decide), fun e => absurd e (by decide), trivial⟩)
                  · intro r a w' hf hg hW hr hd K hK
                    refine wpOp_of rfl rfl ?_
                    refine hf.depE hg hd 5 165 (by kernel_rfl) fun u0 e0 g0 h0 => ?_
                    replace g0 : u0 = .slice (some ⟨b0, o0, none⟩) n ca := g0
                    subst g0
                    refine hf.depE hg hd 6 166 (by kernel_rfl) fun u1 e1 g1 h1 => ?_
                    replace g1 : u1 = .int .i64 (i1 : Nat) := g1
                    subst g1
                    go_simp
                    exact hK _ _ rfl (hW.upd 7 _ ⟨fun e => absurd e (by decide), fun e => absurd e (by decide), trivial⟩)
                  · intro r a w' hf hg hW hr hd K hK
                    refine wpOp_of rfl rfl ?_
                    refine hf.depE hg hd 7 167 (by kernel_rfl) fun u0 e0 g0 h0 => ?_
                    replace g0 : u0 = .pointer (some ⟨b0, o0 + i1 * 2, none⟩) := g0
                    subst g0
                    go_simp
                    exact hK _ _ rfl (hW.upd 8 _ ⟨fun e => absurd e (by decide), fun e => absurd e (by decide), trivial⟩)
                  · intro r a w' hf hg hW hr hd K hK
                    refine wpOp_of rfl rfl ?_
                    refine hf.depE hg hd 8 168 (by kernel_rfl) fun u0 e0 g0 h0 => ?_
                    replace g0 : u0 = .pointer (some ⟨b0, o0 + i1 * 2 + 1, none⟩) := g0
                    subst g0
                    have z0 := hW.kp.cell c1 id
                    go_simp
                    exact hK _ _ rfl (hW.upd 9 _ ⟨fun e => absurd e (by decide), fun e => absurd e (by decide), trivial⟩)
                  · intro r a w' hf hg hW hr hd K hK
                    refine wpOp_of rfl rfl ?_
                    have e0 : a.tmps.getD 16 undef = .int .i64 (i1 : Nat) := hf.evalFree (by kernel_rfl)
                    go_simp
                    exact hK _ _ rfl (hW.upd 10 _ ⟨fun e => absurd e (by decide), fun e => absurd e (by decide), trivial⟩)
                  · intro r a w' hf hg hW hr hd K hK
                    refine wpOp_of rfl rfl ?_
                    refine hf.depE hg hd 10 170 (by kernel_rfl) fun u0 e0 g0 h0 => ?_
                    replace g0 : u0 = .int .i64 (i1 : Nat) := g0
                    subst g0
                    go_simp
                    exact hK _ _ rfl (hW.upd 11 _ ⟨fun e => absurd e (by decide), fun e => absurd e (by decide), trivial⟩)
                  · intro r a w' hf hg hW hr hd K hK
                    refine wpOp_of rfl rfl ?_
                    have e0 : a.tmps.getD 0 undef = .slice (some ⟨b0, o0, none⟩) n ca := hf.evalFree (by kernel_rfl)
                    go_simp
                    exact hK _ _ rfl (hW.upd 12 _ ⟨fun e => absurd e (by decide), fun e => absurd e (by decide), trivial⟩)
                  · intro r a w' hf hg hW hr hd K hK
                    refine wpOp_of rfl rfl ?_
                    refine hf.depE hg hd 12 172 (by kernel_rfl) fun u0 e0 g0 h0 => ?_
                    replace g0 : u0 = .slice (some ⟨b0, o0, none⟩) n ca := g0
                    subst g0
                    go_simp
                    exact hK _ _ rfl (hW.upd 13 _ ⟨fun e => absurd e (by decide), fun e => absurd e (by decide), trivial⟩)
                  · intro r a w' hf hg hW hr hd K hK
                    refine wpOp_of rfl rfl ?_
                    refine hf.depE hg hd 13 173 (by kernel_rfl) fun u0 e0 g0 h0 => ?_
                    replace g0 : u0 = .int .i64 (n : Nat) := g0
                    subst g0
                    go_simp
                    exact hK _ _ rfl (hW.upd 14 _ ⟨fun e => absurd e (by decide), fun e => absurd e (by decide), trivial⟩)
                  · intro r a w' hf hg hW hr hd K hK
                    refine wpOp_of rfl rfl ?_
                    refine hf.depE hg hd 11 171 (by kernel_rfl) fun u0 e0 g0 h0 => ?_
                    replace g0 : u0 = .int .i64 (2 * (i1 : Int)) := g0
                    subst g0
                    refine hf.depE hg hd 14 174 (by kernel_rfl) fun u1 e1 g1 h1 => ?_
                    replace g1 : u1 = .int .i64 ((n : Int) - 1) := g1
                    subst g1
                    go_simp
                    exact hK _ _ rfl (hW.upd 15 _ ⟨fun e => absurd e (by decide), fun e => absurd e (by decide), trivial⟩)
                  · intro r a w' hf hg hW hr hd K hK
                    refine wpOp_of rfl rfl ?_
                    refine hf.depE hg hd 4 164 (by kernel_rfl) fun u0 e0 g0 h0 => ?_
                    replace g0 : u0 = .int .i64 (cnt : Nat) := g0
                    subst g0
                    refine hf.depE hg hd 9 169 (by kernel_rfl) fun u1 e1 g1 h1 => ?_
                    replace g1 : u1 = .int .i64 fk := g1
                    subst g1
                    refine hf.depE hg hd 15 175 (by kernel_rfl) fun u2 e2 g2 h2 => ?_
                    replace g2 : u2 = .bool rb := g2
                    subst g2
                    go_simp
                    with_reducible refine (STC.out _).mono ?_
                    rintro e w'' ⟨B9, d9, rfl, ho, k0⟩
                    exact hK _ _ trivial ((hW.call FS.out k0).upd 16 _ ⟨fun _ => ⟨B9, d9, rfl, own_rdi ho HTL.out⟩, fun e => absurd e (by decide), trivial⟩)
                  · intro r a w' hf hg hW hr hd K hK
                    refine wpOp_of rfl rfl ?_
                    refine hf.depE hg hd 16 176 (by kernel_rfl) fun u0 e0 g0 h0 => ?_
                    have f0 := (hW.hv 16 u0 h0).1 rfl
                    go_simp
                    exact hK _ _ trivial (hW.upd 17 _ ⟨fun e => absurd e (by decide), fun _ => f0, trivial⟩)
                intro r' w5 hg hW hr'
                have hkN := hW.kp
                obtain ⟨q17, hq17⟩ : ∃ u, r' 17 = some u := Option.ne_none_iff_exists'.1 (hr' 17 (by decide))
                have hF17 := (hW.hv 17 q17 hq17).2.1 rfl
                simp only [List.length_cons, List.length_nil, Nat.reduceAdd, List.range_succ, List.range_zero, List.nil_append, List.cons_append, List.map_cons, List.map_nil, putAll, Act.put, List.setIfInBounds_toArray, List.set_cons_succ, List.set_cons_zero, hq17, Option.getD_some]
                clear hg hW hr' FS hq17
                obtain ⟨Bo, co, rfl, ro⟩ := hF17
                have HRO := Lib.hid ro
                have HK45 := Lib.hid hkN
                have HK5 := Lib.hid (HKP4.out.tr hkN)
                have HRW5 := Lib.hid (HRW4.out.no hkN)
                have HOV5 := Lib.hid (own_kp HOV.out hkN (fun _ _ h => h))
                have HD4 := Lib.hid (hkN.cell D4.out id)
                have HD5 := Lib.hid (show w5.frozen? ⟨gr, i1, none⟩ = false by rw [hkN.frozen hgl id]; exact D5.out)
                have hgl5 : gr < w5.heap.size := World.block_lt_of_cell? _ _ HD4.out
                clear ro hkN d4 q1 q2 c1 hb0
                go_wp2_with fail
                go_loopw [17, 19] (fun v i wr => ∃ (j : Nat) (A3 : Option Addr) (c3 : Nat), j ≤ cnt ∧ i = .int .i64 (j : Nat) ∧ v = .slice A3 j c3 ∧ OwI wr w5.heap.size (.slice A3 j c3) (cI ((T.take j).map fun x => Rw.getD x 0)) ∧ Kp No w5 wr) (fun _ i _ => cnt - (intOf i).toNat)
                case atStart => exact ⟨0, none, 0, by omega, rfl, rfl, World.ownsRow_nil _ _ _ _, Kp.refl _ _⟩
                case round =>
                  obtain ⟨j, A3, c3, hj, rfl, rfl, hown, hkp⟩ := hrel
                  have HK5 := Lib.hid hkp
                  have HLJ := Lib.hid (show (cI ((T.take j).map fun x => Rw.getD x 0)).length = j by
                    have := HTL.out
                    rw [cI_len] at this
                    rw [cI_len, List.length_map, List.length_take]
                    omega)
                  unfold OwI at hown
                  rw [HLJ.out] at hown
                  have OS := Lib.hid hown
                  have hct := hkp.cell HD4.out id
                  clear hown hkp
                  by_cases hlt5 : j < cnt
                  · obtain ⟨x, hx⟩ : ∃ x, T[j]? = some x := ⟨_, List.getElem?_eq_getElem (by have := HTL.out; rw [cI_len] at this; omega)⟩
                    have hxc := HTLT.out x (List.mem_of_getElem? hx)
                    obtain ⟨y, hy⟩ : ∃ y, Rw[x]? = some y := ⟨_, List.getElem?_eq_getElem (by rw [HRL.out]; exact hxc)⟩
                    obtain ⟨br, rfl⟩ := HFV.out (by omega)
                    obtain ⟨bo, oo, rfl, hbo, hco5⟩ := HRO.out.2 j (x : Int) (by unfold cI; rw [List.getElem?_map, hx]; rfl)
                    have hco := HK5.out.cell hco5 id
                    have hcr5 : w5.cell? ⟨br, x, none⟩ = some (.int .i64 (y : Nat)) := by
                      have h := HOV5.out
                      unfold OwI at h
                      rw [cI_len, HRL.out] at h
                      exact own_cell h (by unfold cI; rw [List.map_map, List.getElem?_map, hy]; rfl)
                    have hcr := HK5.out.cell hcr5 id
                    have hbr : br < w5.heap.size := World.block_lt_of_cell? _ _ hcr5
                    have HNE := Lib.hid (show ¬ (fun k => w5.heap.size ≤ k) gr ∧ ¬ (fun k => w5.heap.size ≤ k) bo ∧ ¬ (fun k => w5.heap.size ≤ k) br from
                      ⟨fun h => by have h : w5.heap.size ≤ gr := h; omega, fun h => by have h : w5.heap.size ≤ bo := h; omega, fun h => by have h : w5.heap.size ≤ br := h; omega⟩)
                    have HXS := Lib.hid (show (cI ((T.take (j + 1)).map fun x => Rw.getD x 0)).map (Value.int .i64) = (cI ((T.take j).map fun x => Rw.getD x 0)).map (Value.int .i64) ++ [.int .i64 (y : Nat)] by
                      rw [take_map_succ (fun x => Rw.getD x 0) T j x hx, cI_snoc, List.map_append]
                      simp [hy])
                    have hglr : gr < wr.heap.size := World.block_lt_of_cell? _ _ hct
                    clear hx hy hco5 hcr5 hbo
                    obtain ⟨i0, hi0, hz0, hz1, hz2⟩ := info_parts infoI0
                    go_wp2_with fail
                    have up : ∀ (r : Nat → Option Value) (w' : World) (i : Nat) (v : Value), i ≠ 11 → i ≠ 12 → i ≠ 13 → (Kp (fun k => w5.heap.size ≤ k) wr w' ∧ (r 12 = none → Kp No wr w' ∧ ∀ u, r 11 = some u → ∃ gq, u = .slice (some ⟨gq, 0, none⟩) 1 1 ∧ ∀ (jj : Nat) xx, ([.int .i64 (y : Nat)] : List Value)[jj]? = some xx → w'.cell? ⟨gq, jj, none⟩ = some xx) ∧ (∀ u, r 12 = some u → r 0 ≠ none ∧ r 11 ≠ none ∧ w'.ownsRow w5.heap.size 3 1 u (j + 1) (((cI ((T.take j).map fun x => Rw.getD x 0)).map (Value.int .i64)) ++ [.int .i64 (y : Nat)])) ∧ (∀ u, r 13 = some u → r 12 = some u)) → (Kp (fun k => w5.heap.size ≤ k) wr w' ∧ ((Kq.upd r i v) 12 = none → Kp No wr w' ∧ ∀ u, (Kq.upd r i v) 11 = some u → ∃ gq, u = .slice (some ⟨gq, 0, none⟩) 1 1 ∧ ∀ (jj : Nat) xx, ([.int .i64 (y : Nat)] : List Value)[jj]? = some xx → w'.cell? ⟨gq, jj, none⟩ = some xx) ∧ (∀ u, (Kq.upd r i v) 12 = some u → (Kq.upd r i v) 0 ≠ none ∧ (Kq.upd r i v) 11 ≠ none ∧ w'.ownsRow w5.heap.size 3 1 u (j + 1) (((cI ((T.take j).map fun x => Rw.getD x 0)).map (Value.int .i64)) ++ [.int .i64 (y : Nat)])) ∧ (∀ u, (Kq.upd r i v) 13 = some u → (Kq.upd r i v) 12 = some u)) := fun r w' i v h1 h2 h3 h => by
                      rw [upd_ne _ _ h1.symm, upd_ne _ _ h2.symm, upd_ne _ _ h3.symm]
                      exact ⟨h.1, h.2.1, fun u hu => ⟨upd_some (h.2.2.1 u hu).1, (h.2.2.1 u hu).2⟩, h.2.2.2⟩
                    have UP := Lib.hid up
                    clear up
                    refine wp_region_each (fun ix uR => match ix with | 0 => uR = .slice A3 j c3 | 1 => uR = .slice (some ⟨gr, 0, none⟩) n n | 2 => uR = .int .i64 (i1 : Nat) | 3 => uR = .pointer (some ⟨gr, i1, none⟩) | 4 => uR = .slice (some ⟨br, 0, none⟩) cnt cv | 5 => uR = .slice (some ⟨bo, oo, none⟩) cnt co | 6 => uR = .int .i64 (j : Nat) | 7 => uR = .pointer (some ⟨bo, oo + j, none⟩) | 8 => uR = .int .i64 (x : Nat) | 9 => uR = .pointer (some ⟨br, x, none⟩) | 10 => uR = .int .i64 (y : Nat) | _ => True) (fun r w' => (Kp (fun k => w5.heap.size ≤ k) wr w' ∧ (r 12 = none → Kp No wr w' ∧ ∀ u, r 11 = some u → ∃ gq, u = .slice (some ⟨gq, 0, none⟩) 1 1 ∧ ∀ (jj : Nat) xx, ([.int .i64 (y : Nat)] : List Value)[jj]? = some xx → w'.cell? ⟨gq, jj, none⟩ = some xx) ∧ (∀ u, r 12 = some u → r 0 ≠ none ∧ r 11 ≠ none ∧ w'.ownsRow w5.heap.size 3 1 u (j + 1) (((cI ((T.take j).map fun x => Rw.getD x 0)).map (Value.int .i64)) ++ [.int .i64 (y : Nat)])) ∧ (∀ u, r 13 = some u → r 12 = some u))) (by kernel_rfl) (by kernel_rfl) (by kernel_rfl) ?_ ?_ ?_
                    · exact ⟨Kp.drew _ _, fun _ => ⟨Kp.drew _ _, fun u h => (by cases h)⟩, fun u h => (by cases h), fun u h => (by cases h)⟩
                    · refine ⟨?_, ?_, ?_, ?_, ?_, ?_, ?_, ?_, ?_, ?_, ?_, ?_, ?_, ?_, trivial⟩
                      · intro r a w' hf hg hW hr hd K hK
                        refine wpOp_of rfl rfl ?_
                        have e0 : a.tmps.getD 17 undef = .slice A3 j c3 := hf.evalYet (i := 13) (by cases hs : r 13 with | none => rfl | some v => exact absurd hr (hW.2.2.1 v (hW.2.2.2 v hs)).1) (by kernel_rfl)
                        go_simp
                        exact hK _ _ rfl (UP.out r w' 0 _ (by decide) (by decide) (by decide) hW)
                      · intro r a w' hf hg hW hr hd K hK
                        refine wpOp_of rfl rfl ?_
                        have e0 : a.tmps.getD 8 undef = .slice (some ⟨gr, 0, none⟩) n n := hf.evalFree (by kernel_rfl)
                        go_simp
                        exact hK _ _ rfl (UP.out r w' 1 _ (by decide) (by decide) (by decide) hW)
                      · intro r a w' hf hg hW hr hd K hK
                        refine wpOp_of rfl rfl ?_
                        have e0 : a.tmps.getD 16 undef = .int .i64 (i1 : Nat) := hf.evalFree (by kernel_rfl)
                        go_simp
                        exact hK _ _ rfl (UP.out r w' 2 _ (by decide) (by decide) (by decide) hW)
                      · intro r a w' hf hg hW hr hd K hK
                        refine wpOp_of rfl rfl ?_
                        refine hf.depE hg hd 1 184 (by kernel_rfl) fun u0 e0 g0 h0 => ?_
                        replace g0 : u0 = .slice (some ⟨gr, 0, none⟩) n n := g0
                        subst g0
                        refine hf.depE hg hd 2 185 (by kernel_rfl) fun u1 e1 g1 h1 => ?_
                        replace g1 : u1 = .int .i64 (i1 : Nat) := g1
                        subst g1
                        go_simp
                        exact hK _ _ rfl (UP.out r w' 3 _ (by decide) (by decide) (by decide) hW)
                      · intro r a w' hf hg hW hr hd K hK
                        refine wpOp_of rfl rfl ?_
                        refine hf.depE hg hd 3 186 (by kernel_rfl) fun u0 e0 g0 h0 => ?_
                        replace g0 : u0 = .pointer (some ⟨gr, i1, none⟩) := g0
                        subst g0
                        have z0 := hW.1.cell hct HNE.out.1
                        go_simp
                        exact hK _ _ rfl (UP.out r w' 4 _ (by decide) (by decide) (by decide) hW)
                      · intro r a w' hf hg hW hr hd K hK
                        refine wpOp_of rfl rfl ?_
                        have e0 : a.tmps.getD 18 undef = .slice (some ⟨bo, oo, none⟩) cnt co := hf.evalFree (by kernel_rfl)
                        go_simp
                        exact hK _ _ rfl (UP.out r w' 5 _ (by decide) (by decide) (by decide) hW)
                      · intro r a w' hf hg hW hr hd K hK
                        refine wpOp_of rfl rfl ?_
                        have e0 : a.tmps.getD 19 undef = .int .i64 (j : Nat) := hf.evalFree (by kernel_rfl)
                        go_simp
                        exact hK _ _ rfl (UP.out r w' 6 _ (by decide) (by decide) (by decide) hW)
                      · intro r a w' hf hg hW hr hd K hK
                        refine wpOp_of rfl rfl ?_
                        refine hf.depE hg hd 5 188 (by kernel_rfl) fun u0 e0 g0 h0 => ?_
                        replace g0 : u0 = .slice (some ⟨bo, oo, none⟩) cnt co := g0
                        subst g0
                        refine hf.depE hg hd 6 189 (by kernel_rfl) fun u1 e1 g1 h1 => ?_
                        replace g1 : u1 = .int .i64 (j : Nat) := g1
                        subst g1
                        go_simp
                        exact hK _ _ rfl (UP.out r w' 7 _ (by decide) (by decide) (by decide) hW)
                      · intro r a w' hf hg hW hr hd K hK
                        refine wpOp_of rfl rfl ?_
                        refine hf.depE hg hd 7 190 (by kernel_rfl) fun u0 e0 g0 h0 => ?_
                        replace g0 : u0 = .pointer (some ⟨bo, oo + j, none⟩) := g0
                        subst g0
                        have z0 := hW.1.cell hco HNE.out.2.1
                        go_simp
                        exact hK _ _ rfl (UP.out r w' 8 _ (by decide) (by decide) (by decide) hW)
                      · intro r a w' hf hg hW hr hd K hK
                        refine wpOp_of rfl rfl ?_
                        refine hf.depE hg hd 4 187 (by kernel_rfl) fun u0 e0 g0 h0 => ?_
                        replace g0 : u0 = .slice (some ⟨br, 0, none⟩) cnt cv := g0
                        subst g0
                        refine hf.depE hg hd 8 191 (by kernel_rfl) fun u1 e1 g1 h1 => ?_
                        replace g1 : u1 = .int .i64 (x : Nat) := g1
                        subst g1
                        go_simp
                        exact hK _ _ rfl (UP.out r w' 9 _ (by decide) (by decide) (by decide) hW)
                      · intro r a w' hf hg hW hr hd K hK
                        refine wpOp_of rfl rfl ?_
                        refine hf.depE hg hd 9 192 (by kernel_rfl) fun u0 e0 g0 h0 => ?_
                        replace g0 : u0 = .pointer (some ⟨br, x, none⟩) := g0
                        subst g0
                        have z0 := hW.1.cell hcr HNE.out.2.2
                        go_simp
                        exact hK _ _ rfl (UP.out r w' 10 _ (by decide) (by decide) (by decide) hW)
                      · intro r a w' hf hg hW hr hd K hK
                        refine wpOp_of rfl rfl ?_
                        refine hf.depE hg hd 10 193 (by kernel_rfl) fun u0 e0 g0 h0 => ?_
                        replace g0 : u0 = .int .i64 (y : Nat) := g0
                        subst g0
                        have e0' := get_of_getD e0
                        have H9 : r 12 = none := by
                          cases hs : r 12 with
                          | none => rfl
                          | some v => exact absurd hr (hW.2.2.1 v hs).2.1
                        go_simp
                        refine hK _ _ trivial ⟨hW.1.tr (Kp.alloc _ _ _), fun _ => ⟨(hW.2.1 H9).1.tr (Kp.alloc _ _ _), fun u hu => ?_⟩, fun u hu => ?_, fun u hu => ?_⟩
                        · rw [upd_same] at hu
                          cases hu
                          exact ⟨w'.heap.size, rfl, fun jj xx hj => by have := new_cells (e := 3) w' [.int .i64 (y : Nat)] (by simp [maxLen]) jj xx hj; rwa [add_at, Nat.zero_add] at this⟩
                        · rw [upd_ne _ _ (by decide), H9] at hu
                          cases hu
                        · rw [upd_ne _ _ (by decide)] at hu
                          have := hW.2.2.2 u hu
                          rw [H9] at this
                          cases this
                      · intro r a w' hf hg hW hr hd K hK
                        refine wpOp_of rfl rfl ?_
                        refine hf.depE hg hd 0 183 (by kernel_rfl) fun u0 e0 g0 h0 => ?_
                        replace g0 : u0 = .slice A3 j c3 := g0
                        subst g0
                        refine hf.depE hg hd 11 194 (by kernel_rfl) fun u1 e1 g1 h1 => ?_
                        obtain ⟨gq, hq, hcc⟩ := (hW.2.1 hr).2 u1 h1
                        subst hq
                        have hownw := own_kp OS.out (hW.2.1 hr).1 (fun _ _ h => h)
                        refine wpo_append (.tmp 183) (.tmp 194) 22 rfl w5.heap.size 3 i0 (.int .i64 0) 1 8 Try.underlying22 hi0 hz0 hz1 hz2 rfl (by decide) (.slice A3 j c3) j ((cI ((T.take j).map fun x => Rw.getD x 0)).map (Value.int .i64)) e0 hownw ⟨gq, 0, none⟩ 1 1 [.int .i64 (y : Nat)] e1 rfl (fun jj xx hj => by rw [add_at, Nat.zero_add]; exact hcc jj xx hj) (fun u hu => by simp at hu; subst hu; rfl) (by unfold maxLen; omega) (by omega) (by have := HK5.out.size; have := hW.1.size; omega) (fun v' w'' ho hgr _ => ?_)
                        refine hK _ _ trivial ⟨hW.1.tr (Kp.grown hgr fun k hk _ => (own_ge hownw hk).1), fun h => ?_, fun u hu => ?_, fun u hu => ?_⟩
                        · rw [upd_same] at h
                          cases h
                        · rw [upd_same] at hu
                          cases hu
                          exact ⟨by rw [upd_ne _ _ (by decide), h0]; simp, by rw [upd_ne _ _ (by decide), h1]; simp, ho⟩
                        · rw [upd_ne _ _ (by decide)] at hu
                          have := hW.2.2.2 u hu
                          rw [hr] at this
                          cases this
                      · intro r a w' hf hg hW hr hd K hK
                        refine wpOp_of rfl rfl ?_
                        refine hf.depE hg hd 12 195 (by kernel_rfl) fun u0 e0 g0 h0 => ?_
                        go_simp
                        refine hK _ _ trivial ⟨hW.1, fun h => ?_, fun u hu => ?_, fun u hu => ?_⟩
                        · rw [upd_ne _ _ (by decide)] at h
                          rw [h0] at h
                          cases h
                        · rw [upd_ne _ _ (by decide)] at hu
                          obtain ⟨k1, k2, k3⟩ := hW.2.2.1 u hu
                          exact ⟨upd_some k1, upd_some k2, k3⟩
                        · rw [upd_same] at hu
                          rw [upd_ne _ _ (by decide), h0, hu]
                    intro r' w7 hg hW hr'
                    obtain ⟨q12, hq12⟩ : ∃ u, r' 12 = some u := Option.ne_none_iff_exists'.1 (hr' 12 (by decide))
                    obtain ⟨q13, hq13⟩ : ∃ u, r' 13 = some u := Option.ne_none_iff_exists'.1 (hr' 13 (by decide))
                    simp only [List.length_cons, List.length_nil, Nat.reduceAdd, List.range_succ, List.range_zero, List.nil_append, List.cons_append, List.map_cons, List.map_nil, putAll, Act.put, List.setIfInBounds_toArray, List.set_cons_succ, List.set_cons_zero, hq12, hq13, Option.getD_some]
                    obtain ⟨_, _, hown'⟩ := hW.2.2.1 q12 hq12
                    have hqq := hW.2.2.2 q13 hq13
                    rw [hq12] at hqq
                    cases hqq
                    have hk7 : Kp No w5 w7 := HK5.out.trans hW.1 fun k hk e => by have e : w5.heap.size ≤ k := e; omega
                    rw [← HXS.out] at hown'
                    clear hg hW hr' hq12 hq13
                    obtain ⟨g1, c7, rfl, _, _, _⟩ := own_form hown'
                    have OS7 := Lib.hid hown'
                    have HK7 := Lib.hid hk7
                    clear hown' hk7 hct hco hcr hi0 hz0 hz1 hz2
                    go_wp2_with fail
                    go_roundw
                    case rel =>
                      refine ⟨j + 1, g1, c7, by omega, by go_num, rfl, ?_, HK7.out⟩
                      unfold OwI
                      rw [show (cI ((T.take (j + 1)).map fun x => Rw.getD x 0)).length = j + 1 by
                        have := HTL.out
                        rw [cI_len] at this
                        rw [cI_len, List.length_map, List.length_take]
                        omega]
                      exact OS7.out
                    case measure => simp [intOf]; omega
                  · obtain rfl : cnt = j := by omega
                    have HTT := Lib.hid (show T.take cnt = T from List.take_of_length_le (by have := HTL.out; rw [cI_len] at this; omega))
                    have HO3 := Lib.hid (show OwI wr w.heap.size (.slice A3 cnt c3) (cI (fldN l ns i1)) by
                      have h := OS.out
                      rw [HTT.out, ← HFLD.out] at h
                      have h2 := HTL.out
                      unfold OwI
                      rw [show (cI (fldN l ns i1)).length = cnt by rw [HFLD.out, cI_len, List.length_map]; rwa [cI_len] at h2]
                      refine own_mono h ?_
                      have h3 := HKP4.out.size
                      have h4 := HK45.out.size
                      omega)
                    have hset := HRW5.out.set (w' := wr) (v' := .slice A3 cnt c3) HROW.out HD4.out (HK5.out.mono fun _ _ h => h.elim) HO3.out (.inr fun b hb => by
                      have h := OS.out
                      exact (own_ge h (g := b) (by
                        rcases h.2 with ⟨hv, _⟩ | ⟨g2, _, _, hv, _⟩
                        · rw [hv] at hb; cases hb
                        · rw [hv] at hb ⊢; exact hb)).1)
                    rw [HMS.out] at hset
                    have HSET := Lib.hid hset.1
                    have HKS := Lib.hid (show Kp No w (wr.setCell ⟨gr, i1, none⟩ (.slice A3 cnt c3)) from (HKP4.out.tr (HK45.out.tr HK5.out)).trans hset.2 fun k hk e => by
                      have e : k = gr := e
                      have := HGR.out
                      omega)
                    have hfz : wr.frozen? ⟨gr, i1, none⟩ = false := by rw [HK5.out.frozen hgl5 id]; exact HD5.out
                    have hglr : gr < wr.heap.size := World.block_lt_of_cell? _ _ hct
                    clear hset
                    go_wp2_with fail
                    go_roundw
                    case rel => exact ⟨i1 + 1, by omega, by go_num, HSET.out, HKS.out⟩
                    case measure => simp [intOf]; omega
              · obtain rfl : n = i1 := by omega
                have HPL := Lib.hid (show RwM w.heap.size w4 gr n (intP (planN l ns)) by
                  have h := HRW4.out
                  have e := mix_all l ns
                  rw [HLA.out] at e
                  rwa [e] at h)
                go_wp2_with fail
                refine bodyPost_ret (v := .tuple #[.slice (some ⟨gr, 0, none⟩) n n, .bool true]) (by simp [results, Try.results23, go_sem]) rfl ⟨HKP4.out, .inr ⟨?_, gr, ?_, ?_⟩⟩
                · rw [HLA.out, ← HHE.out]; exact HT.out
                · rw [HLA.out]
                · rw [HLA.out, ← HNS.out]; exact HPL.out
  · obtain ⟨rr, hrem⟩ : ∃ rr, (n : Int) % 2 = rr := ⟨_, rfl⟩
    have drr0 : ¬ rr = 1 := by omega
    have drr : (rr == 1) = false := by simp; omega
    have hH : (n : Int) / 2 - 1 = (((n + 1) / 2 : Nat) : Int) - 1 - ((0 : Nat) : Int) := by omega
    have HB1 := Lib.hid (show ∀ t, t < 0 → ns.getD t 0 ≤ 60 from fun t h => by omega)
    have hAm : atN n ns 0 ≤ m := Nat.zero_le _
    have hAi : (0 : Int) = ((atN n ns 0 : Nat) : Int) := rfl
    have hP := Lib.hid (show ∀ k, 0 ≤ k → ¬ lefN n k = n - 1 - lefN n k ∨ (n + 1) / 2 ≤ k from fun k h => by unfold lefN; omega)
    have HDS := HD0
    have hKq : 0 ≤ q := by omega
    have HRW2 := Lib.hid (show RwM w.heap.size (w.alloc (.cells (Array.replicate n (.slice none 0 0)) 22)) gr n (intP (partN n (rawN n ns) 0)) by rw [part_zero]; exact HM0.out)
    have HKP := HK0
    go_enter Try.func23, Try.ntmps23
    go_wp2_with fail
    generalize w.alloc (.cells (Array.replicate n (.slice none 0 0)) 22) = ws at *
    clear hmk HD0 HM0 HK0
    obtain ⟨H, hH0⟩ : ∃ H, H = (n + 1) / 2 := ⟨_, rfl⟩
    rw [← hH0] at hH HDS hP HFAIL
    have HHE := Lib.hid hH0
    have hHb : n ≤ 2 * H ∧ 2 * H ≤ n + 1 := by omega
    clear hH0 hrem
    go_loopw [9, 10, 13] (fun a k lf wr => ∃ kk : Nat, 0 ≤ kk ∧ kk ≤ H ∧ kk ≤ q ∧ a = .int .i64 ((atN n ns kk : Nat) : Int) ∧ k = .int .i64 (kk : Nat) ∧ lf = .int .i64 ((H : Int) - 1 - (kk : Int)) ∧ atN n ns kk ≤ m ∧ dvJ n m H 0 nums = dvJ n m (H - kk) (atN n ns kk) (nums.drop kk) ∧ (∀ t, t < kk → ns.getD t 0 ≤ 60) ∧ RwM w.heap.size wr gr n (intP (partN n (rawN n ns) kk)) ∧ Kp No w wr) (fun _ k _ _ => 100 - (intOf k).toNat)
    case atStart => exact ⟨0, by omega, by omega, by omega, (by first | rfl | exact congrArg (Value.int .i64) hAi), rfl, (by congr 1; omega), hAm, HDS.out, HB1.out, HRW2.out, HKP.out⟩
    case round =>
      clear hAi hH hAm HDS HB1 HRW2 HKP
      obtain ⟨wo, rfl⟩ : ∃ wo, wo = wr := ⟨_, rfl⟩
      obtain ⟨kk, hK, hkH, hkq, rfl, rfl, rfl, hat, hdv, hns60, hrw, hkp⟩ := hrel
      have HDV := Lib.hid hdv
      have HN60 := Lib.hid hns60
      have HRW := Lib.hid hrw
      have HKP := Lib.hid hkp
      clear hdv hns60 hrw hkp
      by_cases hlt : kk < H
      · have hkl : kk < (n + 1) / 2 := by rw [← HHE.out]; exact hlt
        have hll := lef_lt hkl
        obtain ⟨lf, hlf⟩ : ∃ lf, lf = lefN n kk := ⟨_, rfl⟩
        obtain ⟨rg, hrg⟩ : ∃ rg, rg = n - 1 - lefN n kk := ⟨_, rfl⟩
        have hlfi : (H : Int) - 1 - (kk : Int) = (lf : Int) := by rw [hlf]; unfold lefN; rw [← HHE.out]; omega
        have hrgi : (n : Int) - 1 - (lf : Int) = (rg : Int) := by rw [hrg, ← hlf]; omega
        have hne : lf ≠ rg := by
          rcases hP.out kk hK with h | h
          · rw [hlf, hrg]; exact h
          · omega
        have hs2 : sizN n kk = 2 := by unfold sizN; rw [if_neg (by rw [← hrg, ← hlf]; exact hne)]
        have HL0 := Lib.hid (show (intP (partN n (rawN n ns) kk))[lf]? = some [] from by
          have h := part_get (L := n) (rawN n ns) kk (i := lf) (by omega)
          rw [if_neg (by rw [hlf, (grp_iff hll.1 hkl).2 (.inl rfl)]; omega)] at h
          exact intP_get h)
        have HR0 := Lib.hid (show (intP (partN n (rawN n ns) kk))[rg]? = some [] from by
          have h := part_get (L := n) (rawN n ns) kk (i := rg) (by omega)
          rw [if_neg (by rw [hrg, (grp_iff hll.2.1 hkl).2 (.inr rfl)]; omega)] at h
          exact intP_get h)
        have hrl := raw_left ns hkl
        have hrr := raw_right (L := n) ns hkl (by omega)
        have hps := part_step (rawN n ns) hkl
        rw [hs2, ← hlf] at hrl
        rw [hs2, ← hrg] at hrr
        rw [← hrg, ← hlf, hrl, hrr] at hps
        have HPS := Lib.hid hps
        have hlfn : lf < n := by omega
        have hrgn : rg < n := by omega
        have HPLN := Lib.hid (show (intP (partN n (rawN n ns) kk)).length = n from HRW.out.hl)
        rcases Nat.lt_or_ge kk q with hkq2 | hkq2
        rotate_left
        · have HF := Lib.hid (show dvJ n m H 0 nums = false by
            rw [HDV.out, HHE.out]
            exact dvJ_short hkl (by rw [HLB.out]; exact hkq2))
          clear hrl hrr hps hll hs2 hlf hrg
          go_wp2_with fail
          exact bodyPost_ret (v := .tuple #[.slice none 0 0, .bool false]) (by simp [results, Try.results23, go_sem]) rfl (HFAIL.out _ HKP.out HF.out)
        obtain ⟨x, hx⟩ : ∃ x, nums[kk]? = some x := ⟨_, List.getElem?_eq_getElem (by rw [HLB.out]; exact hkq2)⟩
        have hst := dvJ_step (n := m) (at_ := atN n ns kk) hkl hx
        have hat1 := HATS.out kk x hx
        rw [hs2] at hst hat1
        rw [← HHE.out] at hst
        have HNX := Lib.hid (HNG.out kk x hx)
        have HST := Lib.hid hst
        have HAT1 := Lib.hid hat1
        obtain ⟨bb, ob, rfl, hbb, hcw⟩ := HB.out.2 kk x hx
        have HCW := Lib.hid hcw
        have hcb := HKP.out.cell hcw id
        have hbb2 := World.block_lt_of_cell? _ _ hcb
        clear hst hat1 hx hrl hrr hps hll hs2 hlf hrg hcw hbb hkl
        generalize atN n ns kk = a0 at *
        by_cases hx1 : x < 1
        · have HF := Lib.hid (show dvJ n m H 0 nums = false by
            rw [HDV.out, HST.out]
            have : decide (1 ≤ x) = false := by simp; omega
            rw [this, Bool.false_and, Bool.false_and])
          go_wp2_with fail
          exact bodyPost_ret (v := .tuple #[.slice none 0 0, .bool false]) (by simp [results, Try.results23, go_sem]) rfl (HFAIL.out _ HKP.out HF.out)
        by_cases hxm : ((m : Int) - (a0 : Int)) / 2 < x
        · have HF := Lib.hid (show dvJ n m H 0 nums = false by
            rw [HDV.out, HST.out]
            have : decide (a0 + 2 * x.toNat ≤ m) = false := by simp; omega
            rw [this, Bool.and_false, Bool.false_and])
          go_wp2_with fail
          exact bodyPost_ret (v := .tuple #[.slice none 0 0, .bool false]) (by simp [results, Try.results23, go_sem]) rfl (HFAIL.out _ HKP.out HF.out)
        obtain ⟨X, rfl⟩ : ∃ X : Nat, x = X := ⟨x.toNat, by omega⟩
        rw [Int.toNat_natCast] at HST HAT1 HNX
        rw [HNX.out] at HPS
        have hxb : a0 + 2 * X ≤ m := by omega
        have HDV2 := Lib.hid (show dvJ n m H 0 nums = dvJ n m (H - (kk + 1)) (a0 + 2 * X) (nums.drop (kk + 1)) by
          rw [HDV.out, HST.out]
          have h1 : decide ((1 : Int) ≤ (X : Int)) = true := by simp; omega
          have h2 : decide (a0 + 2 * X ≤ m) = true := by simp; omega
          rw [h1, h2]
          rfl)
        have HPN := Lib.hid (show intP (partN n (rawN n ns) (kk + 1)) = ((intP (partN n (rawN n ns) kk)).set lf (cI ((List.range X).map fun x => a0 + 2 * x))).set rg (cI ((List.range X).map fun x => a0 + 2 * x + 1)) by rw [← HPS.out, intP_set, intP_set])
        generalize intP (partN n (rawN n ns) kk) = P at *
        clear HPS HST HDV
        go_wp2_with fail
        go_loopw [15] (fun i wr => ∃ t : Nat, t ≤ X ∧ i = .int .i64 (t : Nat) ∧ RwM w.heap.size wr gr n ((P.set lf (cI ((List.range t).map fun x => a0 + 2 * x))).set rg (cI ((List.range t).map fun x => a0 + 2 * x + 1))) ∧ Kp No w wr) (fun i _ => X - (intOf i).toNat)
        case atStart =>
          refine ⟨0, by omega, rfl, ?_, HKP.out⟩
          rw [show cI ((List.range 0).map fun x => a0 + 2 * x) = [] from rfl, show cI ((List.range 0).map fun x => a0 + 2 * x + 1) = [] from rfl, set_id HL0.out, set_id HR0.out]
          exact HRW.out
        case round =>
          obtain ⟨t, ht, rfl, hrw, hkp⟩ := hrel
          have HRW3 := Lib.hid hrw
          have HKP3 := Lib.hid hkp
          have hcb3 := hkp.cell HCW.out id
          have hbb3 := World.block_lt_of_cell? _ _ hcb3
          clear hrw hkp
          by_cases hlt3 : t < X
          · have hrow : ((P.set lf (cI ((List.range t).map fun x => a0 + 2 * x))).set rg (cI ((List.range t).map fun x => a0 + 2 * x + 1)))[lf]? = some (cI ((List.range t).map fun x => a0 + 2 * x)) := by
              rw [List.getElem?_set_ne (Ne.symm hne), List.getElem?_set_self (by rw [HPLN.out]; exact hlfn)]
            obtain ⟨v, d4, d5, hov, _, hgl⟩ := HRW3.out.cell hrow
            have hzl : (cI ((List.range t).map fun x => a0 + 2 * x)).length = t := by rw [cI_len, List.length_map, List.length_range]
            obtain ⟨A1, c1, rfl, hc1, _, _⟩ := own_form hov
            rw [hzl] at d4
            have HOV := Lib.hid hov
            rw [hzl] at HOV
            have HZL := Lib.hid hzl
            have HROW := Lib.hid hrow
            have D4 := Lib.hid d4
            have hm1 : (a0 : Int) + 2 * (t : Int) = ((a0 + 2 * t : Nat) : Int) := by simp
            obtain ⟨y0, hy0⟩ : ∃ y0, y0 = a0 + 2 * t := ⟨_, rfl⟩
            have HSN := Lib.hid (show cI ((List.range (t + 1)).map fun x => a0 + 2 * x) = cI ((List.range t).map fun x => a0 + 2 * x) ++ [(y0 : Int)] by rw [range_snoc, hy0])
            have HSN1 := Lib.hid (show cI ((List.range (t + 1)).map fun x => a0 + 2 * x + 1) = cI ((List.range t).map fun x => a0 + 2 * x + 1) ++ [((y0 : Int) + 1)] by rw [range_snoc, hy0]; rfl)
            rw [← hy0] at hm1
            have hyb : y0 ≤ 120 := by omega
            have hm3 : (a0 : Int) + 2 * (t : Int) + 1 = (y0 : Int) + 1 := by omega
            clear hov hzl hrow hy0
            go_wp2_with (at_builtin; refine stop_in ?_)
            refine stop_out ?_
            refine push_int rfl _ _ rfl w.heap.size A1 t c1 (cI ((List.range t).map fun x => a0 + 2 * x)) (y0 : Int) rfl rfl rfl HZL.out HOV.out (by omega) HKP3.out (Nat.le_refl _) HKP3.out.size ?_
            intro g' c' w' ho' _ hkat
            obtain ⟨k', hat'⟩ := hkat
            rw [← HSN.out] at ho'
            obtain ⟨r1, r2, ⟨u9, d6⟩, d7⟩ := rw_push HKP3.out HRW3.out HROW.out D4.out HOV.out ho' k' hat'
            have hc4 := r2.cell HCW.out id
            have R1 := Lib.hid r1
            have R2 := Lib.hid r2
            clear r1 r2 ho' k' hat' d4 d5 hcb3 hbb3
            obtain ⟨w5, hw5⟩ : ∃ w5, w'.setCell ⟨gr, lf, none⟩ (.slice (some ⟨g', 0, none⟩) (t + 1) c') = w5 := ⟨_, rfl⟩
            rw [hw5] at R1 R2 hc4
            have hrow : (((P.set lf (cI ((List.range t).map fun x => a0 + 2 * x))).set rg (cI ((List.range t).map fun x => a0 + 2 * x + 1))).set lf (cI ((List.range (t + 1)).map fun x => a0 + 2 * x)))[rg]? = some (cI ((List.range t).map fun x => a0 + 2 * x + 1)) := by
              rw [List.getElem?_set_ne hne, List.getElem?_set_self (by rw [List.length_set, HPLN.out]; exact hrgn)]
            obtain ⟨v, d4, d5, hov, _, hgl5⟩ := R1.out.cell hrow
            have hzl : (cI ((List.range t).map fun x => a0 + 2 * x + 1)).length = t := by rw [cI_len, List.length_map, List.length_range]
            obtain ⟨A2, c2, rfl, hc2, _, _⟩ := own_form hov
            rw [hzl] at d4
            have HOV2 := Lib.hid hov
            rw [hzl] at HOV2
            have HZL2 := Lib.hid hzl
            have HROW2 := Lib.hid hrow
            have D42 := Lib.hid d4
            clear hov hzl hrow
            go_wp2_with (at_builtin; refine stop_in ?_)
            refine stop_out ?_
            refine push_int rfl _ _ rfl w.heap.size A2 t c2 (cI ((List.range t).map fun x => a0 + 2 * x + 1)) ((y0 : Int) + 1) rfl rfl rfl HZL2.out HOV2.out (by omega) R2.out (Nat.le_refl _) R2.out.size ?_
            intro g2 c2' w6 ho2 _ hkat
            obtain ⟨k2, hat2⟩ := hkat
            rw [← HSN1.out] at ho2
            obtain ⟨r3, r4, ⟨u8, e6⟩, e7⟩ := rw_push R2.out R1.out HROW2.out D42.out HOV2.out ho2 k2 hat2
            rw [set_two _ hne] at r3
            have R3 := Lib.hid r3
            have R4 := Lib.hid r4
            clear r3 r4 ho2 k2 hat2 d4 d5 hc4 hw5 d6 d7
            go_wp2_with fail
            go_roundw
            case rel => exact ⟨t + 1, by omega, by go_num, R3.out, R4.out⟩
            case measure => simp [intOf]; omega
          · obtain rfl : X = t := by omega
            have HRW4 := Lib.hid (show RwM w.heap.size wr gr n (intP (partN n (rawN n ns) (kk + 1))) by rw [HPN.out]; exact HRW3.out)
            have HN61 := Lib.hid (show ∀ t, t < kk + 1 → ns.getD t 0 ≤ 60 from fun t h => by
              rcases Nat.lt_or_ge t kk with h1 | h1
              · exact HN60.out t h1
              · obtain rfl : t = kk := by omega
                rw [HNX.out]
                omega)
            clear HRW3 HPN
            go_wp2_with fail
            go_roundw
            case rel => exact ⟨kk + 1, by omega, by omega, by omega, by rw [HAT1.out]; go_num, by go_num, by congr 1; omega, by rw [HAT1.out]; exact hxb, by rw [HAT1.out]; exact HDV2.out, HN61.out, HRW4.out, HKP3.out⟩
            case measure => simp [intOf]; omega
      · obtain rfl : H = kk := by omega
        have HDE := Lib.hid (show dvJ n m H 0 nums = (decide (atN n ns H = m) && decide (H = q)) by rw [HDV.out, Nat.sub_self, dvJ_end (by rw [HLB.out]; exact hkq), HLB.out])
        clear HDV
        generalize atN n ns H = aH at *
        by_cases hE1 : aH = m
        rotate_left
        · have d1 : ((aH : Int) != (m : Int)) = true := by simp; omega
          have HF := Lib.hid (show dvJ n m H 0 nums = false by rw [HDE.out]; simp [hE1])
          clear hE1
          go_wp2_with fail
          exact bodyPost_ret (v := .tuple #[.slice none 0 0, .bool false]) (by simp [results, Try.results23, go_sem]) rfl (HFAIL.out _ HKP.out HF.out)
        have d1 : ((aH : Int) != (m : Int)) = false := by simp; omega
        by_cases hE2 : H = q
        rotate_left
        · have d2 : ((H : Int) != (q : Int)) = true := by simp; omega
          have HF := Lib.hid (show dvJ n m H 0 nums = false by rw [HDE.out]; simp [hE2])
          clear hE1 hE2
          go_wp2_with fail
          exact bodyPost_ret (v := .tuple #[.slice none 0 0, .bool false]) (by simp [results, Try.results23, go_sem]) rfl (HFAIL.out _ HKP.out HF.out)
        have d2 : ((H : Int) != (q : Int)) = false := by simp; omega
        have HT := Lib.hid (show dvJ n m H 0 nums = true by rw [HDE.out]; simp [hE1, hE2])
        have HMX := Lib.hid (show RwM w.heap.size wo gr n (intP (mixN l ns 0)) by rw [mix_zero, HLA.out, ← HHE.out]; exact HRW.out)
        have hHn := hHb
        clear hE1 hE2 HRW hP hHb
        go_wp2_with fail
        go_loopw [16] (fun i wr => ∃ i1 : Nat, i1 ≤ n ∧ i = .int .i64 (i1 : Nat) ∧ RwM w.heap.size wr gr n (intP (mixN l ns i1)) ∧ Kp No w wr) (fun i _ => n - (intOf i).toNat)
        case atStart => exact ⟨0, by omega, rfl, HMX.out, HKP.out⟩
        case round =>
          obtain ⟨w4, rfl⟩ : ∃ w4, w4 = wr := ⟨_, rfl⟩
          obtain ⟨i1, hi1, rfl, hrw, hkp⟩ := hrel
          have HRW4 := Lib.hid hrw
          have HKP4 := Lib.hid hkp
          clear hrw hkp
          by_cases hlt4 : i1 < n
          · obtain ⟨f, hf⟩ : ∃ f, l[i1]? = some f := ⟨_, List.getElem?_eq_getElem (by rw [HLA.out]; exact hlt4)⟩
            obtain ⟨cnt, hcnt⟩ : ∃ cnt, cnt = ns.getD (grpN n i1) 0 := ⟨_, rfl⟩
            obtain ⟨Rw, hRw⟩ : ∃ Rw, Rw = rawN n ns i1 := ⟨_, rfl⟩
            have hc60 : cnt ≤ 60 := by rw [hcnt]; exact HN60.out _ (by rw [HHE.out]; exact grp_lt hlt4)
            have hrl : Rw.length = cnt := by rw [hRw, raw_len, hcnt]
            obtain ⟨rb, hrb⟩ : ∃ rb, rb = rgtB n i1 := ⟨_, rfl⟩
            have hrbd : decide ((n : Int) - 1 < 2 * (i1 : Int)) = rb := by rw [hrb]; unfold rgtB; rw [decide_eq_decide]; omega
            obtain ⟨T, hT⟩ : ∃ T, T = staN cnt f.k rb := ⟨_, rfl⟩
            have HTL := Lib.hid (show (cI T).length = cnt by rw [cI_len, hT, sta_len])
            have HTLT := Lib.hid (show ∀ x ∈ T, x < cnt from fun x hx => sta_lt (by rw [← hT]; exact hx))
            have HFLD := Lib.hid (show fldN l ns i1 = T.map fun x => Rw.getD x 0 by
              rw [fld_raw, HLA.out, getD_at hf, ← hcnt, ← hRw, ← hrb, ← hT])
            have hrow : (intP (mixN l ns i1))[i1]? = some (cI Rw) := by
              have h := mix_get (l := l) (ns := ns) (i := i1) (j := i1) (by rw [HLA.out]; exact hlt4)
              rw [if_neg (by omega), HLA.out, ← hRw] at h
              exact intP_get h
            have HMS := Lib.hid (show (intP (mixN l ns i1)).set i1 (cI (fldN l ns i1)) = intP (mixN l ns (i1 + 1)) by
              rw [← intP_set, mix_succ (by rw [HLA.out]; exact hlt4)])
            obtain ⟨v, d4, d5, hov, _, hgl⟩ := HRW4.out.cell hrow
            obtain ⟨Av, cv, rfl, hcv, _, hfv⟩ := own_form hov
            rw [cI_len, hrl] at d4 hfv
            have HOV := Lib.hid hov
            have HFV := Lib.hid hfv
            have HRL := Lib.hid hrl
            have HROW := Lib.hid hrow
            have D4 := Lib.hid d4
            have D5 := Lib.hid d5
            have STC := Lib.hid (fun w0 => stands_any cnt f.k rb w0 hc60 (HKD.out f (List.mem_of_getElem? hf)))
            rw [← hT] at STC
            obtain ⟨b0, o0, rfl, hb0, c0, c1⟩ := rdf_at (HA.out.no HKP4.out) hf
            obtain ⟨fw, fk⟩ := f
            dsimp only at *
            have q1 : IntKind.i64.wrap (2 * (i1 : Int)) = 2 * (i1 : Int) := by rw [IntKind.wrap_i64]; omega
            have q2 : IntKind.i64.wrap ((n : Int) - 1) = (n : Int) - 1 := by rw [IntKind.wrap_i64]; omega
            clear hT hrb hRw hcnt hrow hov hfv hrl hf c0 d5
            go_wp2_with fail
            have FS : Stab (fun ix wz u => (ix = 16 → RwF cnt (cI T) wz u) ∧ (ix = 17 → RwF cnt (cI T) wz u) ∧ True) := fun ix u wz wz' kz h => ⟨fun e => RwF.no (h.1 e) kz, fun e => RwF.no (h.2.1 e) kz, trivial⟩
            replace FS := Lib.hid FS
            refine wp_region_each (fun ix uR => match ix with | 0 => uR = .slice (some ⟨gr, 0, none⟩) n n | 1 => uR = .int .i64 (i1 : Nat) | 2 => uR = .pointer (some ⟨gr, i1, none⟩) | 3 => uR = .slice Av cnt cv | 4 => uR = .int .i64 (cnt : Nat) | 5 => uR = .slice (some ⟨b0, o0, none⟩) n ca | 6 => uR = .int .i64 (i1 : Nat) | 7 => uR = .pointer (some ⟨b0, o0 + i1 * 2, none⟩) | 8 => uR = .pointer (some ⟨b0, o0 + i1 * 2 + 1, none⟩) | 9 => uR = .int .i64 fk | 10 => uR = .int .i64 (i1 : Nat) | 11 => uR = .int .i64 (2 * (i1 : Int)) | 12 => uR = .slice (some ⟨b0, o0, none⟩) n ca | 13 => uR = .int .i64 (n : Nat) | 14 => uR = .int .i64 ((n : Int) - 1) | 15 => uR = .bool rb | _ => True) (HvW w4 (fun ix wz u => (ix = 16 → RwF cnt (cI T) wz u) ∧ (ix = 17 → RwF cnt (cI T) wz u) ∧ True)) (by kernel_rfl) (by kernel_rfl) (by kernel_rfl) ?_ ?_ ?_
            · exact HvW.start _ _
            · refine ⟨?_, ?_, ?_, ?_, ?_, ?_, ?_, ?_, ?_, ?_, ?_, ?_, ?_, ?_, ?_, ?_, ?_, ?_, trivial⟩
              · intro r a w' hf hg hW hr hd K hK
                refine wpOp_of rfl rfl ?_
                have e0 : a.tmps.getD 8 undef = .slice (some ⟨gr, 0, none⟩) n n := hf.evalFree (by kernel_rfl)
                go_simp
                exact hK _ _ rfl (hW.upd 0 _ ⟨fun e => absurd e (by decide), fun e => absurd e (by decide), trivial⟩)
              · intro r a w' hf hg hW hr hd K hK
                refine wpOp_of rfl rfl ?_
                have e0 : a.tmps.getD 16 undef = .int .i64 (i1 : Nat) := hf.evalFree (by kernel_rfl)
                go_simp
                exact hK _ _ rfl (hW.upd 1 _ ⟨fun e => absurd e (by decide), fun e => absurd e (by decide), trivial⟩)
              · intro r a w' hf hg hW hr hd K hK
                refine wpOp_of rfl rfl ?_
                refine hf.depE hg hd 0 160 (by kernel_rfl) fun u0 e0 g0 h0 => ?_
                replace g0 : u0 = .slice (some ⟨gr, 0, none⟩) n n := g0
                subst g0
                refine hf.depE hg hd 1 161 (by kernel_rfl) fun u1 e1 g1 h1 => ?_
                replace g1 : u1 = .int .i64 (i1 : Nat) := g1
                subst g1
                go_simp
                exact hK _ _ rfl (hW.upd 2 _ ⟨fun e => absurd e (by decide), fun e => absurd e (by decide), trivial⟩)
              · intro r a w' hf hg hW hr hd K hK
                refine wpOp_of rfl rfl ?_
                refine hf.depE hg hd 2 162 (by kernel_rfl) fun u0 e0 g0 h0 => ?_
                replace g0 : u0 = .pointer (some ⟨gr, i1, none⟩) := g0
                subst g0
                have z0 := hW.kp.cell D4.out id
                go_simp
                exact hK _ _ rfl (hW.upd 3 _ ⟨fun e => absurd e (by decide), fun e => absurd e (by decide), trivial⟩)
              · intro r a w' hf hg hW hr hd K hK
                refine wpOp_of rfl rfl ?_
                refine hf.depE hg hd 3 163 (by kernel_rfl) fun u0 e0 g0 h0 => ?_
                replace g0 : u0 = .slice Av cnt cv := g0
                subst g0
                go_simp
                exact hK _ _ rfl (hW.upd 4 _ ⟨fun e => absurd e (by decide), fun e => absurd e (by decide), trivial⟩)
              · intro r a w' hf hg hW hr hd K hK
                refine wpOp_of rfl rfl ?_
                have e0 : a.tmps.getD 0 undef = .slice (some ⟨b0, o0, none⟩) n ca := hf.evalFree (by kernel_rfl)
                go_simp
                exact hK _ _ rfl (hW.upd 5 _ ⟨fun e => absurd e (by decide), fun e => absurd e (by decide), trivial⟩)
              · intro r a w' hf hg hW hr hd K hK
                refine wpOp_of rfl rfl ?_
                have e0 : a.tmps.getD 16 undef = .int .i64 (i1 : Nat) := hf.evalFree (by kernel_rfl)
                go_simp
                exact hK _ _ rfl (hW.upd 6 _ ⟨fun e => absurd e (by decide), fun e => absurd e (by decide), trivial⟩)
              · intro r a w' hf hg hW hr hd K hK
                refine wpOp_of rfl rfl ?_
                refine hf.depE hg hd 5 165 (by kernel_rfl) fun u0 e0 g0 h0 => ?_
                replace g0 : u0 = .slice (some ⟨b0, o0, none⟩) n ca := g0
                subst g0
                refine hf.depE hg hd 6 166 (by kernel_rfl) fun u1 e1 g1 h1 => ?_
                replace g1 : u1 = .int .i64 (i1 : Nat) := g1
                subst g1
                go_simp
                exact hK _ _ rfl (hW.upd 7 _ ⟨fun e => absurd e (by decide), fun e => absurd e (by decide), trivial⟩)
              · intro r a w' hf hg hW hr hd K hK
                refine wpOp_of rfl rfl ?_
                refine hf.depE hg hd 7 167 (by kernel_rfl) fun u0 e0 g0 h0 => ?_
                replace g0 : u0 = .pointer (some ⟨b0, o0 + i1 * 2, none⟩) := g0
                subst g0
                go_simp
                exact hK _ _ rfl (hW.upd 8 _ ⟨fun e => absurd e (by decide), fun e => absurd e (by decide), trivial⟩)
              · intro r a w' hf hg hW hr hd K hK
                refine wpOp_of rfl rfl ?_
                refine hf.depE hg hd 8 168 (by kernel_rfl) fun u0 e0 g0 h0 => ?_
                replace g0 : u0 = .pointer (some ⟨b0, o0 + i1 * 2 + 1, none⟩) := g0
                subst g0
                have z0 := hW.kp.cell c1 id
                go_simp
                exact hK _ _ rfl (hW.upd 9 _ ⟨fun e => absurd e (by decide), fun e => absurd e (by decide), trivial⟩)
              · intro r a w' hf hg hW hr hd K hK
                refine wpOp_of rfl rfl ?_
                have e0 : a.tmps.getD 16 undef = .int .i64 (i1 : Nat) := hf.evalFree (by kernel_rfl)
                go_simp
                exact hK _ _ rfl (hW.upd 10 _ ⟨fun e => absurd e (by decide), fun e => absurd e (by decide), trivial⟩)
              · intro r a w' hf hg hW hr hd K hK
                refine wpOp_of rfl rfl ?_
                refine hf.depE hg hd 10 170 (by kernel_rfl) fun u0 e0 g0 h0 => ?_
                replace g0 : u0 = .int .i64 (i1 : Nat) := g0
                subst g0
                go_simp
                exact hK _ _ rfl (hW.upd 11 _ ⟨fun e => absurd e (by decide), fun e => absurd e (by decide), trivial⟩)
              · intro r a w' hf hg hW hr hd K hK
                refine wpOp_of rfl rfl ?_
                have e0 : a.tmps.getD 0 undef = .slice (some ⟨b0, o0, none⟩) n ca := hf.evalFree (by kernel_rfl)
                go_simp
                exact hK _ _ rfl (hW.upd 12 _ ⟨fun e => absurd e (by decide), fun e => absurd e (by decide), trivial⟩)
              · intro r a w' hf hg hW hr hd K hK
                refine wpOp_of rfl rfl ?_
                refine hf.depE hg hd 12 172 (by kernel_rfl) fun u0 e0 g0 h0 => ?_
                replace g0 : u0 = .slice (some ⟨b0, o0, none⟩) n ca := g0
                subst g0
                go_simp
                exact hK _ _ rfl (hW.upd 13 _ ⟨fun e => absurd e (by decide), fun e => absurd e (by decide), trivial⟩)
              · intro r a w' hf hg hW hr hd K hK
                refine wpOp_of rfl rfl ?_
                refine hf.depE hg hd 13 173 (by kernel_rfl) fun u0 e0 g0 h0 => ?_
                replace g0 : u0 = .int .i64 (n : Nat) := g0
                subst g0
                go_simp
                exact hK _ _ rfl (hW.upd 14 _ ⟨fun e => absurd e (by decide), fun e => absurd e (by decide), trivial⟩)
              · intro r a w' hf hg hW hr hd K hK
                refine wpOp_of rfl rfl ?_
                refine hf.depE hg hd 11 171 (by kernel_rfl) fun u0 e0 g0 h0 => ?_
                replace g0 : u0 = .int .i64 (2 * (i1 : Int)) := g0
                subst g0
                refine hf.depE hg hd 14 174 (by kernel_rfl) fun u1 e1 g1 h1 => ?_
                replace g1 : u1 = .int .i64 ((n : Int) - 1) := g1
                subst g1
                go_simp
                exact hK _ _ rfl (hW.upd 15 _ ⟨fun e => absurd e (by decide), fun e => absurd e (by decide), trivial⟩)
              · intro r a w' hf hg hW hr hd K hK
                refine wpOp_of rfl rfl ?_
                refine hf.depE hg hd 4 164 (by kernel_rfl) fun u0 e0 g0 h0 => ?_
                replace g0 : u0 = .int .i64 (cnt : Nat) := g0
                subst g0
                refine hf.depE hg hd 9 169 (by kernel_rfl) fun u1 e1 g1 h1 => ?_
                replace g1 : u1 = .int .i64 fk := g1
                subst g1
                refine hf.depE hg hd 15 175 (by kernel_rfl) fun u2 e2 g2 h2 => ?_
                replace g2 : u2 = .bool rb := g2
                subst g2
                go_simp
                with_reducible refine (STC.out _).mono ?_
                rintro e w'' ⟨B9, d9, rfl, ho, k0⟩
                exact hK _ _ trivial ((hW.call FS.out k0).upd 16 _ ⟨fun _ => ⟨B9, d9, rfl, own_rdi ho HTL.out⟩, fun e => absurd e (by decide), trivial⟩)
              · intro r a w' hf hg hW hr hd K hK
                refine wpOp_of rfl rfl ?_
                refine hf.depE hg hd 16 176 (by kernel_rfl) fun u0 e0 g0 h0 => ?_
                have f0 := (hW.hv 16 u0 h0).1 rfl
                go_simp
                exact hK _ _ trivial (hW.upd 17 _ ⟨fun e => absurd e (by decide), fun _ => f0, trivial⟩)
            intro r' w5 hg hW hr'
            have hkN := hW.kp
            obtain ⟨q17, hq17⟩ : ∃ u, r' 17 = some u := Option.ne_none_iff_exists'.1 (hr' 17 (by decide))
            have hF17 := (hW.hv 17 q17 hq17).2.1 rfl
            simp only [List.length_cons, List.length_nil, Nat.reduceAdd, List.range_succ, List.range_zero, List.nil_append, List.cons_append, List.map_cons, List.map_nil, putAll, Act.put, List.setIfInBounds_toArray, List.set_cons_succ, List.set_cons_zero, hq17, Option.getD_some]
            clear hg hW hr' FS hq17
            obtain ⟨Bo, co, rfl, ro⟩ := hF17
            have HRO := Lib.hid ro
            have HK45 := Lib.hid hkN
            have HK5 := Lib.hid (HKP4.out.tr hkN)
            have HRW5 := Lib.hid (HRW4.out.no hkN)
            have HOV5 := Lib.hid (own_kp HOV.out hkN (fun _ _ h => h))
            have HD4 := Lib.hid (hkN.cell D4.out id)
            have HD5 := Lib.hid (show w5.frozen? ⟨gr, i1, none⟩ = false by rw [hkN.frozen hgl id]; exact D5.out)
            have hgl5 : gr < w5.heap.size := World.block_lt_of_cell? _ _ HD4.out
            clear ro hkN d4 q1 q2 c1 hb0
            go_wp2_with fail
            go_loopw [17, 19] (fun v i wr => ∃ (j : Nat) (A3 : Option Addr) (c3 : Nat), j ≤ cnt ∧ i = .int .i64 (j : Nat) ∧ v = .slice A3 j c3 ∧ OwI wr w5.heap.size (.slice A3 j c3) (cI ((T.take j).map fun x => Rw.getD x 0)) ∧ Kp No w5 wr) (fun _ i _ => cnt - (intOf i).toNat)
            case atStart => exact ⟨0, none, 0, by omega, rfl, rfl, World.ownsRow_nil _ _ _ _, Kp.refl _ _⟩
            case round =>
              obtain ⟨j, A3, c3, hj, rfl, rfl, hown, hkp⟩ := hrel
              have HK5 := Lib.hid hkp
              have HLJ := Lib.hid (show (cI ((T.take j).map fun x => Rw.getD x 0)).length = j by
                have := HTL.out
                rw [cI_len] at this
                rw [cI_len, List.length_map, List.length_take]
                omega)
              unfold OwI at hown
              rw [HLJ.out] at hown
              have OS := Lib.hid hown
              have hct := hkp.cell HD4.out id
              clear hown hkp
              by_cases hlt5 : j < cnt
              · obtain ⟨x, hx⟩ : ∃ x, T[j]? = some x := ⟨_, List.getElem?_eq_getElem (by have := HTL.out; rw [cI_len] at this; omega)⟩
                have hxc := HTLT.out x (List.mem_of_getElem? hx)
                obtain ⟨y, hy⟩ : ∃ y, Rw[x]? = some y := ⟨_, List.getElem?_eq_getElem (by rw [HRL.out]; exact hxc)⟩
                obtain ⟨br, rfl⟩ := HFV.out (by omega)
                obtain ⟨bo, oo, rfl, hbo, hco5⟩ := HRO.out.2 j (x : Int) (by unfold cI; rw [List.getElem?_map, hx]; rfl)
                have hco := HK5.out.cell hco5 id
                have hcr5 : w5.cell? ⟨br, x, none⟩ = some (.int .i64 (y : Nat)) := by
                  have h := HOV5.out
                  unfold OwI at h
                  rw [cI_len, HRL.out] at h
                  exact own_cell h (by unfold cI; rw [List.map_map, List.getElem?_map, hy]; rfl)
                have hcr := HK5.out.cell hcr5 id
                have hbr : br < w5.heap.size := World.block_lt_of_cell? _ _ hcr5
                have HNE := Lib.hid (show ¬ (fun k => w5.heap.size ≤ k) gr ∧ ¬ (fun k => w5.heap.size ≤ k) bo ∧ ¬ (fun k => w5.heap.size ≤ k) br from
                  ⟨fun h => by have h : w5.heap.size ≤ gr := h; omega, fun h => by have h : w5.heap.size ≤ bo := h; omega, fun h => by have h : w5.heap.size ≤ br := h; omega⟩)
                have HXS := Lib.hid (show (cI ((T.take (j + 1)).map fun x => Rw.getD x 0)).map (Value.int .i64) = (cI ((T.take j).map fun x => Rw.getD x 0)).map (Value.int .i64) ++ [.int .i64 (y : Nat)] by
                  rw [take_map_succ (fun x => Rw.getD x 0) T j x hx, cI_snoc, List.map_append]
                  simp [hy])
                have hglr : gr < wr.heap.size := World.block_lt_of_cell? _ _ hct
                clear hx hy hco5 hcr5 hbo
                obtain ⟨i0, hi0, hz0, hz1, hz2⟩ := info_parts infoI0
                go_wp2_with fail
                have up : ∀ (r : Nat → Option Value) (w' : World) (i : Nat) (v : Value), i ≠ 11 → i ≠ 12 → i ≠ 13 → (Kp (fun k => w5.heap.size ≤ k) wr w' ∧ (r 12 = none → Kp No wr w' ∧ ∀ u, r 11 = some u → ∃ gq, u = .slice (some ⟨gq, 0, none⟩) 1 1 ∧ ∀ (jj : Nat) xx, ([.int .i64 (y : Nat)] : List Value)[jj]? = some xx → w'.cell? ⟨gq, jj, none⟩ = some xx) ∧ (∀ u, r 12 = some u → r 0 ≠ none ∧ r 11 ≠ none ∧ w'.ownsRow w5.heap.size 3 1 u (j + 1) (((cI ((T.take j).map fun x => Rw.getD x 0)).map (Value.int .i64)) ++ [.int .i64 (y : Nat)])) ∧ (∀ u, r 13 = some u → r 12 = some u)) → (Kp (fun k => w5.heap.size ≤ k) wr w' ∧ ((Kq.upd r i v) 12 = none → Kp No wr w' ∧ ∀ u, (Kq.upd r i v) 11 = some u → ∃ gq, u = .slice (some ⟨gq, 0, none⟩) 1 1 ∧ ∀ (jj : Nat) xx, ([.int .i64 (y : Nat)] : List Value)[jj]? = some xx → w'.cell? ⟨gq, jj, none⟩ = some xx) ∧ (∀ u, (Kq.upd r i v) 12 = some u → (Kq.upd r i v) 0 ≠ none ∧ (Kq.upd r i v) 11 ≠ none ∧ w'.ownsRow w5.heap.size 3 1 u (j + 1) (((cI ((T.take j).map fun x => Rw.getD x 0)).map (Value.int .i64)) ++ [.int .i64 (y : Nat)])) ∧ (∀ u, (Kq.upd r i v) 13 = some u → (Kq.upd r i v) 12 = some u)) := fun r w' i v h1 h2 h3 h => by
                  rw [upd_ne _ _ h1.symm, upd_ne _ _ h2.symm, upd_ne _ _ h3.symm]
                  exact ⟨h.1, h.2.1, fun u hu => ⟨upd_some (h.2.2.1 u hu).1, (h.2.2.1 u hu).2⟩, h.2.2.2⟩
                have UP := Lib.hid up
                clear up
                refine wp_region_each (fun ix uR => match ix with | 0 => uR = .slice A3 j c3 | 1 => uR = .slice (some ⟨gr, 0, none⟩) n n | 2 => uR = .int .i64 (i1 : Nat) | 3 => uR = .pointer (some ⟨gr, i1, none⟩) | 4 => uR = .slice (some ⟨br, 0, none⟩) cnt cv | 5 => uR = .slice (some ⟨bo, oo, none⟩) cnt co | 6 => uR = .int .i64 (j : Nat) | 7 => uR = .pointer (some ⟨bo, oo + j, none⟩) | 8 => uR = .int .i64 (x : Nat) | 9 => uR = .pointer (some ⟨br, x, none⟩) | 10 => uR = .int .i64 (y : Nat) | _ => True) (fun r w' => (Kp (fun k => w5.heap.size ≤ k) wr w' ∧ (r 12 = none → Kp No wr w' ∧ ∀ u, r 11 = some u → ∃ gq, u = .slice (some ⟨gq, 0, none⟩) 1 1 ∧ ∀ (jj : Nat) xx, ([.int .i64 (y : Nat)] : List Value)[jj]? = some xx → w'.cell? ⟨gq, jj, none⟩ = some xx) ∧ (∀ u, r 12 = some u → r 0 ≠ none ∧ r 11 ≠ none ∧ w'.ownsRow w5.heap.size 3 1 u (j + 1) (((cI ((T.take j).map fun x => Rw.getD x 0)).map (Value.int .i64)) ++ [.int .i64 (y : Nat)])) ∧ (∀ u, r 13 = some u → r 12 = some u))) (by kernel_rfl) (by kernel_rfl) (by kernel_rfl) ?_ ?_ ?_
                · exact ⟨Kp.drew _ _, fun _ => ⟨Kp.drew _ _, fun u h => (by cases h)⟩, fun u h => (by cases h), fun u h => (by cases h)⟩
                · refine ⟨?_, ?_, ?_, ?_, ?_, ?_, ?_, ?_, ?_, ?_, ?_, ?_, ?_, ?_, trivial⟩
                  · intro r a w' hf hg hW hr hd K hK
                    refine wpOp_of rfl rfl ?_
                    have e0 : a.tmps.getD 17 undef = .slice A3 j c3 := hf.evalYet (i := 13) (by cases hs : r 13 with | none => rfl | some v => exact absurd hr (hW.2.2.1 v (hW.2.2.2 v hs)).1) (by kernel_rfl)
                    go_simp
                    exact hK _ _ rfl (UP.out r w' 0 _ (by decide) (by decide) (by decide) hW)
                  · intro r a w' hf hg hW hr hd K hK
                    refine wpOp_of rfl rfl ?_
                    have e0 : a.tmps.getD 8 undef = .slice (some ⟨gr, 0, none⟩) n n := hf.evalFree (by kernel_rfl)
                    go_simp
                    exact hK _ _ rfl (UP.out r w' 1 _ (by decide) (by decide) (by decide) hW)
                  · intro r a w' hf hg hW hr hd K hK
                    refine wpOp_of rfl rfl ?_
                    have e0 : a.tmps.getD 16 undef = .int .i64 (i1 : Nat) := hf.evalFree (by kernel_rfl)
                    go_simp
                    exact hK _ _ rfl (UP.out r w' 2 _ (by decide) (by decide) (by decide) hW)
                  · intro r a w' hf hg hW hr hd K hK
                    refine wpOp_of rfl rfl ?_
                    refine hf.depE hg hd 1 184 (by kernel_rfl) fun u0 e0 g0 h0 => ?_
                    replace g0 : u0 = .slice (some ⟨gr, 0, none⟩) n n := g0
                    subst g0
                    refine hf.depE hg hd 2 185 (by kernel_rfl) fun u1 e1 g1 h1 => ?_
                    replace g1 : u1 = .int .i64 (i1 : Nat) := g1
                    subst g1
                    go_simp
                    exact hK _ _ rfl (UP.out r w' 3 _ (by decide) (by decide) (by decide) hW)
                  · intro r a w' hf hg hW hr hd K hK
                    refine wpOp_of rfl rfl ?_
                    refine hf.depE hg hd 3 186 (by kernel_rfl) fun u0 e0 g0 h0 => ?_
                    replace g0 : u0 = .pointer (some ⟨gr, i1, none⟩) := g0
                    subst g0
                    have z0 := hW.1.cell hct HNE.out.1
                    go_simp
                    exact hK _ _ rfl (UP.out r w' 4 _ (by decide) (by decide) (by decide) hW)
                  · intro r a w' hf hg hW hr hd K hK
                    refine wpOp_of rfl rfl ?_
                    have e0 : a.tmps.getD 18 undef = .slice (some ⟨bo, oo, none⟩) cnt co := hf.evalFree (by kernel_rfl)
                    go_simp
                    exact hK _ _ rfl (UP.out r w' 5 _ (by decide) (by decide) (by decide) hW)
                  · intro r a w' hf hg hW hr hd K hK
                    refine wpOp_of rfl rfl ?_
                    have e0 : a.tmps.getD 19 undef = .int .i64 (j : Nat) := hf.evalFree (by kernel_rfl)
                    go_simp
                    exact hK _ _ rfl (UP.out r w' 6 _ (by decide) (by decide) (by decide) hW)
                  · intro r a w' hf hg hW hr hd K hK
                    refine wpOp_of rfl rfl ?_
                    refine hf.depE hg hd 5 188 (by kernel_rfl) fun u0 e0 g0 h0 => ?_
                    replace g0 : u0 = .slice (some ⟨bo, oo, none⟩) cnt co := g0
                    subst g0
                    refine hf.depE hg hd 6 189 (by kernel_rfl) fun u1 e1 g1 h1 => ?_
                    replace g1 : u1 = .int .i64 (j : Nat) := g1
                    subst g1
                    go_simp
                    exact hK _ _ rfl (UP.out r w' 7 _ (by decide) (by decide) (by decide) hW)
                  · intro r a w' hf hg hW hr hd K hK
                    refine wpOp_of rfl rfl ?_
                    refine hf.depE hg hd 7 190 (by kernel_rfl) fun u0 e0 g0 h0 => ?_
                    replace g0 : u0 = .pointer (some ⟨bo, oo + j, none⟩) := g0
                    subst g0
                    have z0 := hW.1.cell hco HNE.out.2.1
                    go_simp
                    exact hK _ _ rfl (UP.out r w' 8 _ (by decide) (by decide) (by decide) hW)
                  · intro r a w' hf hg hW hr hd K hK
                    refine wpOp_of rfl rfl ?_
                    refine hf.depE hg hd 4 187 (by kernel_rfl) fun u0 e0 g0 h0 => ?_
                    replace g0 : u0 = .slice (some ⟨br, 0, none⟩) cnt cv := g0
                    subst g0
                    refine hf.depE hg hd 8 191 (by kernel_rfl) fun u1 e1 g1 h1 => ?_
                    replace g1 : u1 = .int .i64 (x : Nat) := g1
                    subst g1
                    go_simp
                    exact hK _ _ rfl (UP.out r w' 9 _ (by decide) (by decide) (by decide) hW)
                  · intro r a w' hf hg hW hr hd K hK
                    refine wpOp_of rfl rfl ?_
                    refine hf.depE hg hd 9 192 (by kernel_rfl) fun u0 e0 g0 h0 => ?_
                    replace g0 : u0 = .pointer (some ⟨br, x, none⟩) := g0
                    subst g0
                    have z0 := hW.1.cell hcr HNE.out.2.2
                    go_simp
                    exact hK _ _ rfl (UP.out r w' 10 _ (by decide) (by decide) (by decide) hW)
                  · intro r a w' hf hg hW hr hd K hK
                    refine wpOp_of rfl rfl ?_
                    refine hf.depE hg hd 10 193 (by kernel_rfl) fun u0 e0 g0 h0 => ?_
                    replace g0 : u0 = .int .i64 (y : Nat) := g0
                    subst g0
                    have e0' := get_of_getD e0
                    have H9 : r 12 = none := by
                      cases hs : r 12 with
                      | none => rfl
                      | some v => exact absurd hr (hW.2.2.1 v hs).2.1
                    go_simp
                    refine hK _ _ trivial ⟨hW.1.tr (Kp.alloc _ _ _), fun _ => ⟨(hW.2.1 H9).1.tr (Kp.alloc _ _ _), fun u hu => ?_⟩, fun u hu => ?_, fun u hu => ?_⟩
                    · rw [upd_same] at hu
                      cases hu
                      exact ⟨w'.heap.size, rfl, fun jj xx hj => by have := new_cells (e := 3) w' [.int .i64 (y : Nat)] (by simp [maxLen]) jj xx hj; rwa [add_at, Nat.zero_add] at this⟩
                    · rw [upd_ne _ _ (by decide), H9] at hu
                      cases hu
                    · rw [upd_ne _ _ (by decide)] at hu
                      have := hW.2.2.2 u hu
                      rw [H9] at this
                      cases this
                  · intro r a w' hf hg hW hr hd K hK
                    refine wpOp_of rfl rfl ?_
                    refine hf.depE hg hd 0 183 (by kernel_rfl) fun u0 e0 g0 h0 => ?_
                    replace g0 : u0 = .slice A3 j c3 := g0
                    subst g0
                    refine hf.depE hg hd 11 194 (by kernel_rfl) fun u1 e1 g1 h1 => ?_
                    obtain ⟨gq, hq, hcc⟩ := (hW.2.1 hr).2 u1 h1
                    subst hq
                    have hownw := own_kp OS.out (hW.2.1 hr).1 (fun _ _ h => h)
                    refine wpo_append (.tmp 183) (.tmp 194) 22 rfl w5.heap.size 3 i0 (.int .i64 0) 1 8 Try.underlying22 hi0 hz0 hz1 hz2 rfl (by decide) (.slice A3 j c3) j ((cI ((T.take j).map fun x => Rw.getD x 0)).map (Value.int .i64)) e0 hownw ⟨gq, 0, none⟩ 1 1 [.int .i64 (y : Nat)] e1 rfl (fun jj xx hj => by rw [add_at, Nat.zero_add]; exact hcc jj xx hj) (fun u hu => by simp at hu; subst hu; rfl) (by unfold maxLen; omega) (by omega) (by have := HK5.out.size; have := hW.1.size; omega) (fun v' w'' ho hgr _ => ?_)
                    refine hK _ _ trivial ⟨hW.1.tr (Kp.grown hgr fun k hk _ => (own_ge hownw hk).1), fun h => ?_, fun u hu => ?_, fun u hu => ?_⟩
                    · rw [upd_same] at h
                      cases h
                    · rw [upd_same] at hu
                      cases hu
                      exact ⟨by rw [upd_ne _ _ (by decide), h0]; simp, by rw [upd_ne _ _ (by decide), h1]; simp, ho⟩
                    · rw [upd_ne _ _ (by decide)] at hu
                      have := hW.2.2.2 u hu
                      rw [hr] at this
                      cases this
                  · intro r a w' hf hg hW hr hd K hK
                    refine wpOp_of rfl rfl ?_
                    refine hf.depE hg hd 12 195 (by kernel_rfl) fun u0 e0 g0 h0 => ?_
                    go_simp
                    refine hK _ _ trivial ⟨hW.1, fun h => ?_, fun u hu => ?_, fun u hu => ?_⟩
                    · rw [upd_ne _ _ (by decide)] at h
                      rw [h0] at h
                      cases h
                    · rw [upd_ne _ _ (by decide)] at hu
                      obtain ⟨k1, k2, k3⟩ := hW.2.2.1 u hu
                      exact ⟨upd_some k1, upd_some k2, k3⟩
                    · rw [upd_same] at hu
                      rw [upd_ne _ _ (by decide), h0, hu]
                intro r' w7 hg hW hr'
                obtain ⟨q12, hq12⟩ : ∃ u, r' 12 = some u := Option.ne_none_iff_exists'.1 (hr' 12 (by decide))
                obtain ⟨q13, hq13⟩ : ∃ u, r' 13 = some u := Option.ne_none_iff_exists'.1 (hr' 13 (by decide))
                simp only [List.length_cons, List.length_nil, Nat.reduceAdd, List.range_succ, List.range_zero, List.nil_append, List.cons_append, List.map_cons, List.map_nil, putAll, Act.put, List.setIfInBounds_toArray, List.set_cons_succ, List.set_cons_zero, hq12, hq13, Option.getD_some]
                obtain ⟨_, _, hown'⟩ := hW.2.2.1 q12 hq12
                have hqq := hW.2.2.2 q13 hq13
                rw [hq12] at hqq
                cases hqq
                have hk7 : Kp No w5 w7 := HK5.out.trans hW.1 fun k hk e => by have e : w5.heap.size ≤ k := e; omega
                rw [← HXS.out] at hown'
                clear hg hW hr' hq12 hq13
                obtain ⟨g1, c7, rfl, _, _, _⟩ := own_form hown'
                have OS7 := Lib.hid hown'
                have HK7 := Lib.hid hk7
                clear hown' hk7 hct hco hcr hi0 hz0 hz1 hz2
                go_wp2_with fail
                go_roundw
                case rel =>
                  refine ⟨j + 1, g1, c7, by omega, by go_num, rfl, ?_, HK7.out⟩
                  unfold OwI
                  rw [show (cI ((T.take (j + 1)).map fun x => Rw.getD x 0)).length = j + 1 by
                    have := HTL.out
                    rw [cI_len] at this
                    rw [cI_len, List.length_map, List.length_take]
                    omega]
                  exact OS7.out
                case measure => simp [intOf]; omega
              · obtain rfl : cnt = j := by omega
                have HTT := Lib.hid (show T.take cnt = T from List.take_of_length_le (by have := HTL.out; rw [cI_len] at this; omega))
                have HO3 := Lib.hid (show OwI wr w.heap.size (.slice A3 cnt c3) (cI (fldN l ns i1)) by
                  have h := OS.out
                  rw [HTT.out, ← HFLD.out] at h
                  have h2 := HTL.out
                  unfold OwI
                  rw [show (cI (fldN l ns i1)).length = cnt by rw [HFLD.out, cI_len, List.length_map]; rwa [cI_len] at h2]
                  refine own_mono h ?_
                  have h3 := HKP4.out.size
                  have h4 := HK45.out.size
                  omega)
                have hset := HRW5.out.set (w' := wr) (v' := .slice A3 cnt c3) HROW.out HD4.out (HK5.out.mono fun _ _ h => h.elim) HO3.out (.inr fun b hb => by
                  have h := OS.out
                  exact (own_ge h (g := b) (by
                    rcases h.2 with ⟨hv, _⟩ | ⟨g2, _, _, hv, _⟩
                    · rw [hv] at hb; cases hb
                    · rw [hv] at hb ⊢; exact hb)).1)
                rw [HMS.out] at hset
                have HSET := Lib.hid hset.1
                have HKS := Lib.hid (show Kp No w (wr.setCell ⟨gr, i1, none⟩ (.slice A3 cnt c3)) from (HKP4.out.tr (HK45.out.tr HK5.out)).trans hset.2 fun k hk e => by
                  have e : k = gr := e
                  have := HGR.out
                  omega)
                have hfz : wr.frozen? ⟨gr, i1, none⟩ = false := by rw [HK5.out.frozen hgl5 id]; exact HD5.out
                have hglr : gr < wr.heap.size := World.block_lt_of_cell? _ _ hct
                clear hset
                go_wp2_with fail
                go_roundw
                case rel => exact ⟨i1 + 1, by omega, by go_num, HSET.out, HKS.out⟩
                case measure => simp [intOf]; omega
          · obtain rfl : n = i1 := by omega
            have HPL := Lib.hid (show RwM w.heap.size w4 gr n (intP (planN l ns)) by
              have h := HRW4.out
              have e := mix_all l ns
              rw [HLA.out] at e
              rwa [e] at h)
            go_wp2_with fail
            refine bodyPost_ret (v := .tuple #[.slice (some ⟨gr, 0, none⟩) n n, .bool true]) (by simp [results, Try.results23, go_sem]) rfl ⟨HKP4.out, .inr ⟨?_, gr, ?_, ?_⟩⟩
            · rw [HLA.out, ← HHE.out]; exact HT.out
            · rw [HLA.out]
            · rw [HLA.out, ← HNS.out]; exact HPL.out
end Go.Proofs.Ytakgcnjpmpcekaa
