/- Chapter 09: the reference's count, sum, fits: the walks. · Chapter 09: the theorem of the chapter: plain. · Chapter 09: the law's plates and apart: the walks. -/
import Derived.BigQuiet
import Derived.BigRegion
import Derived.Deep.CutRange
import Derived.Test.YtamjhpdgclbfgaaXNsRM
import Derived.Test.YtamjhpdgclbfgaaXLibHwM
import Derived.Test.YtamjhpdgclbfgaaXNwB
import Derived.Test.YtamjhpdgclbfgaaXCspM
import Derived.Test.YtamjhpdgclbfgaaXAcQ
import Derived.Test.YtamjhpdgclbfgaaXAcCM
namespace Go.Proofs.Ytamjhpdgclbfgaa
open Go.RowKit Go.Kq

def fitV (P : Pt) (l : List Ct) : Int := if l.any (bigC P) then 4 else 0
end Go.Proofs.Ytamjhpdgclbfgaa

namespace Go.Proofs.Ytamjhpdgclbfgaa

theorem job_p {P : Pt} {l : List Ct} {m : Int} (hj : jchk P l m = 0) (hb : l.any (bigC P) = false) : JobP P l ∧ 0 ≤ P.w ∧ 0 ≤ P.h ∧ 1 ≤ P.w ∧ 1 ≤ P.h := by
  have h := job_ok hj
  refine ⟨⟨h.k.1, fun c hc => ?_⟩, by have := h.w; omega, by have := h.h; omega, h.w.1, h.h.1⟩
  have h1 := h.cut c hc
  rw [List.any_eq_false] at hb
  have h2 := hb c hc
  unfold bigC at h2
  simp only [Bool.or_eq_true, decide_eq_true_eq] at h2
  omega
theorem lst_le {P : Pt} {l : List Ct} {v : Int} (h : sumA P.k l ≤ v * ((P.w + P.k) * (P.h + P.k))) (hA : 0 < (P.w + P.k) * (P.h + P.k)) (hj : jchk P l 200 = 0) : (lstV P l).1 ≤ v := by
  unfold lstV
  rw [if_pos hj]
  dsimp only
  generalize (P.w + P.k) * (P.h + P.k) = A at *
  have : (sumA P.k l + A - 1) / A < v + 1 := by
    refine Int.ediv_lt_of_lt_mul hA ?_
    have e : (v + 1) * A = v * A + A := by rw [Int.add_mul, Int.one_mul]
    omega
  omega
/-- What Quick returns. -/
theorem quick_law {P : Pt} {l : List Ct} (hj : jchk P l 200 = 0) (hb : l.any (bigC P) = false) : apV P l (quickF P l) = true ∧ judV P l (quickF P l) = 0 ∧ (lstV P l).1 ≤ plF (quickF P l) ∧ (quickF P l).length = l.length ∧ ∀ s ∈ quickF P l, 0 ≤ s.p ∧ s.p < l.length := by
  obtain ⟨hp, hw, hh, hw1, hh1⟩ := job_p hj hb
  obtain ⟨m, PP, YY, HH, h⟩ := quick_shv hp hw hh
  have hK := hp.k
  refine ⟨h.apart, h.judge hj, ?_, h.len, h.pb⟩
  exact lst_le (h.area hp hw) (Int.mul_pos (by omega) (by omega)) hj
/-- What Nest returns. -/
theorem nest_law {P : Pt} {l : List Ct} (hj : jchk P l 200 = 0) (hb : l.any (bigC P) = false) : apV P l (nestF P l) = true ∧ judV P l (nestF P l) = 0 ∧ (lstV P l).1 ≤ plF (nestF P l) ∧ plF (nestF P l) ≤ plF (quickF P l) ∧ (nestF P l).length = l.length ∧ ∀ s ∈ nestF P l, 0 ≤ s.p ∧ s.p < l.length := by
  obtain ⟨hp, hw, hh, hw1, hh1⟩ := job_p hj hb
  obtain ⟨m, PP, YY, HH, h⟩ := quick_shv hp hw hh
  obtain ⟨ON, ⟨m', PP', YY', HH', h'⟩, h2, h3⟩ := nest_shv hp hh
  obtain ⟨S', ON', d, c1, c2, c3, c4⟩ := h.cand hp
  have hK := hp.k
  have h5 := h3 S' ON' _ d c1 c2 c3
  exact ⟨h'.apart, h'.judge hj, lst_le (h'.area hp hw) (Int.mul_pos (by omega) (by omega)) hj, by omega, h'.len, h'.pb⟩
theorem jchk_8 {P : Pt} {l : List Ct} (hj : jchk P l 200 = 0) : jchk P l 8 = if (8 : Int) < l.length then 3 else 0 := by
  unfold jchk at hj ⊢
  have h1 : jbad P l = false := by
    cases h : jbad P l with
    | false => rfl
    | true =>
      rw [h] at hj
      split at hj
      · cases hj
      · simp at hj
  rw [h1]
  rfl
end Go.Proofs.Ytamjhpdgclbfgaa

namespace Go.Proofs.Ytamjhpdgclbfgaa
open Go.RowKit Go.Kq

theorem pl_take {l : List Spo} {k : Nat} {x : Spo} (h : l[k]? = some x) : plF (l.take (k + 1)) = max (plF (l.take k)) (x.p + 1) := by
  unfold plF
  rw [List.take_add_one, h, List.foldl_append]
  rfl
theorem pl_bd {M : Int} : ∀ (l : List Spo) (n : Int), (∀ s ∈ l, s.p + 1 ≤ M) → 0 ≤ n → n ≤ M → 0 ≤ l.foldl (fun n s => max n (s.p + 1)) n ∧ l.foldl (fun n s => max n (s.p + 1)) n ≤ M
  | [], n, _, h0, h1 => ⟨h0, h1⟩
  | a :: l, n, h, h0, h1 => by
    simp only [List.foldl_cons]
    have := h a (by simp)
    exact pl_bd l _ (fun s hs => h s (by simp [hs])) (by omega) (by omega)
set_option maxHeartbeats 2000000 in
theorem plates_any (A : Option Addr) (n ca : Nat) (S : List Spo) (w : World) (hR : RdS w A n S) (hn : n ≤ 100000) (hb : ∀ s ∈ S, 0 ≤ s.p ∧ s.p < 100000) :
    Calls Try.prog 22 #[.slice A n ca] w fun e w' => e = .returned (.int .i64 (plF S)) ∧ w' = w := by
  have hl := hR.1
  have HR := Lib.hid hR
  have HB := Lib.hid hb
  clear hR hb
  go_enter Try.func22, Try.ntmps22
  go_wp2
  go_loop [3, 4] (fun v s => ∃ k : Nat, k ≤ n ∧ s = .int .i64 k ∧ v = .int .i64 (plF (S.take k))) (fun _ s => n - (intOf s).toNat)
  case atStart => exact ⟨0, by omega, rfl, rfl⟩
  case round =>
    obtain ⟨k, hk, rfl, rfl⟩ := hrel
    by_cases hlt : k < n
    · obtain ⟨x, hx⟩ : ∃ x, S[k]? = some x := ⟨_, List.getElem?_eq_getElem (by omega)⟩
      obtain ⟨b, o, rfl, hbb, hc⟩ := HR.out.2 k _ hx
      have c0 := hc 0 _ rfl
      simp only [Nat.add_zero] at c0
      have hx1 := HB.out x (List.mem_of_getElem? hx)
      have hs := pl_take hx
      have hc1 : 0 ≤ plF (S.take k) ∧ plF (S.take k) ≤ 100000 := pl_bd _ 0 (fun s hs => by have := HB.out s (List.mem_of_mem_take hs); omega) (by omega) (by omega)
      have hlt' : (k : Int) < n := by omega
      generalize plF (S.take k) = q at *
      clear hx hc
      go_wp2
      go_round
      case rel => exact ⟨k + 1, by omega, by go_num, by rw [hs]; (try congr 1); (try (split <;> omega))⟩
      case measure => simp [intOf]; omega
    · obtain rfl : k = n := by omega
      rw [List.take_of_length_le (by omega)]
      go_wp2
      go_ret
      exact ⟨rfl, rfl⟩
theorem two_box (w : World) (A B : Array Value) (eA eB : TypeId) : (((w.alloc (.cells A eA)).alloc (.cells B eB)).drew).heap[w.heap.size]? = some (.cells A eA (0, 0)) ∧ (((w.alloc (.cells A eA)).alloc (.cells B eB)).drew).heap[w.heap.size + 1]? = some (.cells B eB (0, 0)) ∧ Kp No w ((w.alloc (.cells A eA)).alloc (.cells B eB)).drew := by
  refine ⟨(Kp.drew No _).heap ((Kp.alloc No _ _).heap (heap_alloc_new w _) id) id, (Kp.drew No _).heap ?_ id, ((Kp.alloc _ _ _).tr (Kp.alloc _ _ _)).tr (Kp.drew _ _)⟩
  have h := heap_alloc_new (w.alloc (.cells A eA)) (.cells B eB)
  rwa [World.size_alloc] at h
theorem two_c {w : World} {B : Nat} {a b : Value} {t : TypeId} (h : w.heap[B]? = some (.cells #[a, b] t (0, 0))) : w.cell? ⟨B, 0, none⟩ = some a ∧ w.cell? ⟨B, 1, none⟩ = some b := ⟨by rw [cell_of_row w B 0 _ _ _ h]; rfl, by rw [cell_of_row w B 1 _ _ _ h]; rfl⟩
theorem four_c {w : World} {B : Nat} {a b c d : Value} {t : TypeId} (h : w.heap[B]? = some (.cells #[a, b, c, d] t (0, 0))) : w.cell? ⟨B, 0, none⟩ = some a ∧ w.cell? ⟨B, 2, none⟩ = some c ∧ w.cell? ⟨B, 3, none⟩ = some d := ⟨by rw [cell_of_row w B 0 _ _ _ h]; rfl, by rw [cell_of_row w B 2 _ _ _ h]; rfl, by rw [cell_of_row w B 3 _ _ _ h]; rfl⟩
theorem getD_here {α : Type} {l : List α} {i : Nat} {x d : α} (h : l[i]? = some x) : l.getD i d = x := by
  rw [List.getD_eq_getElem?_getD, h]
  rfl
theorem ap_at {P : Pt} {l : List Ct} {at_ : List Spo} {i : Nat} {c : Ct} {s : Spo} (h : apV P l at_ = true) (hc : l[i]? = some c) (hs : at_[i]? = some s) : (0 ≤ s.x ∧ s.x + c.w ≤ P.w) ∧ 0 ≤ s.y ∧ s.y + c.h ≤ P.h := by
  unfold apV at h
  rw [Bool.and_eq_true, List.all_eq_true] at h
  have h1 := h.2 i (List.mem_range.2 (List.getElem?_eq_some_iff.1 hc).1)
  rw [Bool.and_eq_true, getD_here hc, getD_here hs] at h1
  have h2 := h1.1
  unfold onP at h2
  simp only [Bool.not_eq_true', Bool.or_eq_false_iff, decide_eq_false_iff_not] at h2
  omega
theorem ap_two {P : Pt} {l : List Ct} {at_ : List Spo} {i j : Nat} {c e : Ct} {s t : Spo} (h : apV P l at_ = true) (hc : l[i]? = some c) (hs : at_[i]? = some s) (he : l[j]? = some e) (ht : at_[j]? = some t) (hij : j < i) : s.p ≠ t.p ∨ s.x + c.w + P.k ≤ t.x ∨ t.x + e.w + P.k ≤ s.x ∨ s.y + c.h + P.k ≤ t.y ∨ t.y + e.h + P.k ≤ s.y := by
  unfold apV at h
  rw [Bool.and_eq_true, List.all_eq_true] at h
  have h1 := h.2 i (List.mem_range.2 (List.getElem?_eq_some_iff.1 hc).1)
  rw [Bool.and_eq_true, List.all_eq_true] at h1
  have h2 := h1.2 j (List.mem_range.2 hij)
  rw [getD_here hc, getD_here hs, getD_here he, getD_here ht] at h2
  unfold clr at h2
  by_cases h3 : s.p = t.p
  · by_cases h4 : s.x + c.w + P.k ≤ t.x
    · exact .inr (.inl h4)
    · by_cases h5 : t.x + e.w + P.k ≤ s.x
      · exact .inr (.inr (.inl h5))
      · by_cases h6 : s.y + c.h + P.k ≤ t.y
        · exact .inr (.inr (.inr (.inl h6)))
        · by_cases h7 : t.y + e.h + P.k ≤ s.y
          · exact .inr (.inr (.inr (.inr h7)))
          · rw [decide_eq_true h3, decide_eq_false h4, decide_eq_false h5, decide_eq_false h6, decide_eq_false h7] at h2
            simp at h2
  · exact .inl h3
set_option maxHeartbeats 8000000 in
set_option maxRecDepth 100000 in
theorem apart_any (P : Pt) (A B : Option Addr) (n ca cb : Nat) (l : List Ct) (at_ : List Spo) (w : World) (hx : RdC w A n l) (hy : RdS w B n at_) (hn : n ≤ 1000) (hP : JobOk P l 200) (hap : apV P l at_ = true) :
    Calls Try.prog 21 #[P.val, .slice A n ca, .slice B n cb] w fun e w' => e = .returned (.bool true) ∧ Kp No w w' := by
  have mixed : Try.prog.follows .mixedOrders = true := by kernel_rfl
  have hk0 : Kp No w (w.alloc (.cells #[.int .i64 P.w, .int .i64 P.h, .int .i64 P.k] 23)) := Kp.alloc _ _ _
  have hbx : (w.alloc (.cells #[.int .i64 P.w, .int .i64 P.h, .int .i64 P.k] 23)).heap[w.heap.size]? = some (.cells #[.int .i64 P.w, .int .i64 P.h, .int .i64 P.k] 23 (0, 0)) := heap_alloc_new _ _
  obtain ⟨gp, hgP⟩ : ∃ g, w.heap.size = g := ⟨_, rfl⟩
  rw [hgP] at hbx
  obtain ⟨w0, hw0⟩ : ∃ w0, (w.alloc (.cells #[.int .i64 P.w, .int .i64 P.h, .int .i64 P.k] 23)) = w0 := ⟨_, rfl⟩
  rw [hw0] at hk0 hbx
  have HP := Lib.hid hbx
  have HK0 := Lib.hid hk0
  have HX := Lib.hid (hx.no hk0)
  have HY := Lib.hid (hy.no hk0)
  have HL := Lib.hid hx.1
  have HM := Lib.hid hy.1
  have HJ := Lib.hid hP
  have HAP := Lib.hid hap
  unfold Pt.val
  clear hx hy hk0 hbx hap hP
  go_enter Try.func21, Try.ntmps21
  go_wp2_with fail
  clear hw0 hgP
  go_loopw [7] (fun v wr => ∃ k : Nat, k ≤ n ∧ v = .int .i64 (k : Nat) ∧ Kp No w0 wr) (fun v _ => n - (intOf v).toNat)
  case atStart => exact ⟨0, by omega, rfl, Kp.refl _ _⟩
  case round =>
    obtain ⟨i, hi, rfl, hkp⟩ := hrel
    have HKP := Lib.hid hkp
    clear hkp
    by_cases hlt : i < n
    · obtain ⟨⟨cw, ch⟩, hc⟩ : ∃ c, l[i]? = some c := ⟨_, List.getElem?_eq_getElem (by rw [HL.out]; exact hlt)⟩
      obtain ⟨⟨sp, ss, sx, sy⟩, hs⟩ : ∃ s, at_[i]? = some s := ⟨_, List.getElem?_eq_getElem (by rw [HM.out]; exact hlt)⟩
      obtain ⟨b, o, rfl, hb, hcc⟩ := (HX.out.no HKP.out).2 i _ hc
      obtain ⟨b', o', rfl, hb', hss⟩ := (HY.out.no HKP.out).2 i _ hs
      have c0 := hcc 0 _ rfl
      have c1 := hcc 1 _ rfl
      have s0 := hss 0 _ rfl
      have s1 := hss 1 _ rfl
      have s2 := hss 2 _ rfl
      have s3 := hss 3 _ rfl
      simp only [Nat.add_zero] at c0 s0
      have hlt' : (i : Int) < (n : Nat) := by omega
      clear hcc hss
      go_upto_region 6 with fail
      go_cut [8, 9] from 22 to 141 (fun v8 v9 wx => ∃ ga gb, v8 = .pointer (some ⟨ga, 0, none⟩) ∧ v9 = .pointer (some ⟨gb, 0, none⟩) ∧ wx.heap[ga]? = some (.cells #[.int .i64 cw, .int .i64 ch] 35 (0, 0)) ∧ wx.heap[gb]? = some (.cells #[.int .i64 sp, .int .i64 ss, .int .i64 sx, .int .i64 sy] 52 (0, 0)) ∧ Kp No wr wx)
      case first =>
        go_region
        all_goals
          go_wp2_with fail
          go_meet
          first
            | exact ⟨_, _, rfl, rfl, (two_box wr _ _ _ _).1, (two_box wr _ _ _ _).2.1, (two_box wr _ _ _ _).2.2⟩
            | exact ⟨_, _, rfl, rfl, (two_box wr _ _ _ _).2.1, (two_box wr _ _ _ _).1, (two_box wr _ _ _ _).2.2⟩
      case rest =>
      obtain ⟨ga, gb, rfl, rfl, hga, hgb, hk⟩ := hcut
      have HGA := Lib.hid hga
      have HGB := Lib.hid hgb
      have HK := Lib.hid (HKP.out.tr hk)
      have HCI := Lib.hid hc
      have HSI := Lib.hid hs
      have HON := Lib.hid (ap_at HAP.out hc hs)
      have HCB := Lib.hid (HJ.out.cut _ (List.mem_of_getElem? hc))
      obtain ⟨a0, a1⟩ := two_c hga
      obtain ⟨q0, q2, q3⟩ := four_c hgb
      have hpb := HK.out.heap HP.out id
      obtain ⟨p0, p1⟩ : wc.cell? ⟨gp, 0, none⟩ = some (.int .i64 P.w) ∧ wc.cell? ⟨gp, 1, none⟩ = some (.int .i64 P.h) := ⟨by rw [cell_of_row _ _ _ _ _ _ hpb]; rfl, by rw [cell_of_row _ _ _ _ _ _ hpb]; rfl⟩
      have hon := HON.out
      have hcb := HCB.out
      have hjw := HJ.out.w
      have hjh := HJ.out.h
      dsimp only at hon hcb
      obtain ⟨⟨n1, n2⟩, n3, n4⟩ := hon
      have m1 : IntKind.i64.wrap (sx + cw) = sx + cw := by rw [IntKind.wrap_i64]; omega
      have m2 : IntKind.i64.wrap (sy + ch) = sy + ch := by rw [IntKind.wrap_i64]; omega
      clear hc hs hk hga hgb hpb c0 c1 s0 s1 s2 s3 hb hb' HKP
      go_wp2_with fail
      go_loopw [10] (fun v wx => ∃ j : Nat, j ≤ i ∧ v = .int .i64 (j : Nat) ∧ Kp No wc wx) (fun v _ => i - (intOf v).toNat)
      case atStart => exact ⟨0, by omega, rfl, Kp.refl _ _⟩
      case round =>
        clear a0 a1 q0 q2 q3 p0 p1
        obtain ⟨j, hj, rfl, hkp⟩ := hrel
        have HKJ := Lib.hid hkp
        clear hkp
        by_cases hji : j < i
        · obtain ⟨⟨dw, dh⟩, hc⟩ : ∃ c, l[j]? = some c := ⟨_, List.getElem?_eq_getElem (by rw [HL.out]; omega)⟩
          obtain ⟨⟨tp, ts, tx, ty⟩, hs⟩ : ∃ s, at_[j]? = some s := ⟨_, List.getElem?_eq_getElem (by rw [HM.out]; omega)⟩
          obtain ⟨b2, o2, e2, hb, hcc⟩ := ((HX.out.no HK.out).no HKJ.out).2 j _ hc
          obtain ⟨b3, o3, e3, hb', hss⟩ := ((HY.out.no HK.out).no HKJ.out).2 j _ hs
          cases e2
          cases e3
          have c0 := hcc 0 _ rfl
          have c1 := hcc 1 _ rfl
          have s0 := hss 0 _ rfl
          have s1 := hss 1 _ rfl
          have s2 := hss 2 _ rfl
          have s3 := hss 3 _ rfl
          simp only [Nat.add_zero] at c0 s0
          have hji' : (j : Int) < (i : Nat) := by omega
          have hjn' : (j : Int) < (n : Nat) := by omega
          have HTW := Lib.hid (ap_two HAP.out HCI.out HSI.out hc hs hji)
          have HTN := Lib.hid (ap_at HAP.out hc hs)
          have HTB := Lib.hid (HJ.out.cut _ (List.mem_of_getElem? hc))
          clear hcc hss hc hs
          go_upto_region 12 with fail
          go_cut [11, 12] from 64 to 141 (fun v8 v9 wx => ∃ gc gd, v8 = .pointer (some ⟨gc, 0, none⟩) ∧ v9 = .pointer (some ⟨gd, 0, none⟩) ∧ wx.heap[gc]? = some (.cells #[.int .i64 dw, .int .i64 dh] 35 (0, 0)) ∧ wx.heap[gd]? = some (.cells #[.int .i64 tp, .int .i64 ts, .int .i64 tx, .int .i64 ty] 52 (0, 0)) ∧ Kp No wr wx)
          case first =>
            go_region
            all_goals
              go_wp2_with fail
              go_meet
              first
                | exact ⟨_, _, rfl, rfl, (two_box wr _ _ _ _).1, (two_box wr _ _ _ _).2.1, (two_box wr _ _ _ _).2.2⟩
                | exact ⟨_, _, rfl, rfl, (two_box wr _ _ _ _).2.1, (two_box wr _ _ _ _).1, (two_box wr _ _ _ _).2.2⟩
          case rest =>
          clear c0 c1 s0 s1 s2 s3 hb hb'
          obtain ⟨gc, gd, rfl, rfl, hgc, hgd, hk⟩ := hcut
          have HK2 := Lib.hid (HKJ.out.tr hk)
          obtain ⟨e0, e1⟩ := two_c hgc
          obtain ⟨r0, r2, r3⟩ := four_c hgd
          obtain ⟨a0, a1⟩ := two_c (HK2.out.heap HGA.out id)
          obtain ⟨q0, q2, q3⟩ := four_c (HK2.out.heap HGB.out id)
          have hpb := (HK.out.tr HK2.out).heap HP.out id
          have p2 : wc.cell? ⟨gp, 2, none⟩ = some (.int .i64 P.k) := by rw [cell_of_row _ _ _ _ _ _ hpb]; rfl
          have htn := HTN.out
          have htb := HTB.out
          have hkk := HJ.out.k
          dsimp only at htn htb
          have x1 : IntKind.i64.wrap (tx + dw) = tx + dw := by rw [IntKind.wrap_i64]; omega
          have x2 : IntKind.i64.wrap (ty + dh) = ty + dh := by rw [IntKind.wrap_i64]; omega
          have x3 : IntKind.i64.wrap (tx + dw + P.k) = tx + dw + P.k := by rw [IntKind.wrap_i64]; omega
          have x4 : IntKind.i64.wrap (ty + dh + P.k) = ty + dh + P.k := by rw [IntKind.wrap_i64]; omega
          have x5 : IntKind.i64.wrap (sx + cw + P.k) = sx + cw + P.k := by rw [IntKind.wrap_i64]; omega
          have x6 : IntKind.i64.wrap (sy + ch + P.k) = sy + ch + P.k := by rw [IntKind.wrap_i64]; omega
          have htw := HTW.out
          dsimp only at htw
          clear hgc hgd hk hpb
          by_cases h1 : sp = tp
          rotate_left
          · have e1 : (sp == tp) = false := beq_eq_false_iff_ne.2 h1
            have d1 : decide (sp = tp) = false := decide_eq_false h1
            clear htw
            go_wp2_with fail
            go_quiet (fail)
            go_wp2_with fail
            go_quiet (fail)
            go_wp2_with fail
            go_roundw
            case rel => exact ⟨j + 1, by omega, by go_num, HK2.out.tr (by first | exact Kp.drewN No _ _ | exact (Kp.drewN No _ _).tr (Kp.drewN No _ _))⟩
            case measure => simp [intOf]; omega
          have e1 : (sp == tp) = true := beq_iff_eq.2 h1
          have d1 : decide (sp = tp) = true := decide_eq_true h1
          by_cases h2 : sx + cw + P.k ≤ tx
          · have d2 : decide (sx + cw + P.k ≤ tx) = true := decide_eq_true h2
            clear htw
            go_wp2_with fail
            go_quiet (fail)
            go_wp2_with fail
            go_quiet (fail)
            go_wp2_with fail
            go_roundw
            case rel => exact ⟨j + 1, by omega, by go_num, HK2.out.tr (by first | exact Kp.drewN No _ _ | exact (Kp.drewN No _ _).tr (Kp.drewN No _ _))⟩
            case measure => simp [intOf]; omega
          have d2 : decide (sx + cw + P.k ≤ tx) = false := decide_eq_false h2
          by_cases h3 : tx + dw + P.k ≤ sx
          · have d3 : decide (tx + dw + P.k ≤ sx) = true := decide_eq_true h3
            clear htw
            go_wp2_with fail
            go_quiet (fail)
            go_wp2_with fail
            go_quiet (fail)
            go_wp2_with fail
            go_roundw
            case rel => exact ⟨j + 1, by omega, by go_num, HK2.out.tr (by first | exact Kp.drewN No _ _ | exact (Kp.drewN No _ _).tr (Kp.drewN No _ _))⟩
            case measure => simp [intOf]; omega
          have d3 : decide (tx + dw + P.k ≤ sx) = false := decide_eq_false h3
          by_cases h4 : sy + ch + P.k ≤ ty
          · have d4 : decide (sy + ch + P.k ≤ ty) = true := decide_eq_true h4
            clear htw
            go_wp2_with fail
            go_quiet (fail)
            go_wp2_with fail
            go_quiet (fail)
            go_wp2_with fail
            go_roundw
            case rel => exact ⟨j + 1, by omega, by go_num, HK2.out.tr (by first | exact Kp.drewN No _ _ | exact (Kp.drewN No _ _).tr (Kp.drewN No _ _))⟩
            case measure => simp [intOf]; omega
          have d4 : decide (sy + ch + P.k ≤ ty) = false := decide_eq_false h4
          have h5 : ty + dh + P.k ≤ sy := by omega
          have d5 : decide (ty + dh + P.k ≤ sy) = true := decide_eq_true h5
          clear htw
          go_wp2_with fail
          go_quiet (fail)
          go_wp2_with fail
          go_quiet (fail)
          go_wp2_with fail
          go_roundw
          case rel => exact ⟨j + 1, by omega, by go_num, HK2.out.tr (by first | exact Kp.drewN No _ _ | exact (Kp.drewN No _ _).tr (Kp.drewN No _ _))⟩
          case measure => simp [intOf]; omega
        · obtain rfl : j = i := by omega
          have HKN := Lib.hid (HK.out.tr HKJ.out)
          go_wp2_with fail
          go_roundw
          case rel => exact ⟨j + 1, by omega, by go_num, HKN.out⟩
          case measure => simp [intOf]; omega
    · obtain rfl : i = n := by omega
      go_wp2_with fail
      go_ret
      exact ⟨rfl, HK0.out.tr HKP.out⟩
end Go.Proofs.Ytamjhpdgclbfgaa
