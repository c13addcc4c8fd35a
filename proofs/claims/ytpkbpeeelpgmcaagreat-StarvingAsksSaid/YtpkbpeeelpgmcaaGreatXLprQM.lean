/- Chapter 15: the document's Outside. · Chapter 15: the example of the document: plain. · Chapter 15: the example, walked. · Chapter 15: the law's row of a set. -/
import Derived.KernelRfl
import Derived.Test.YtpkbpeeelpgmcaaGreatXRdOM
import Derived.Test.YtpkbpeeelpgmcaaGreatXNwRckM
import Derived.Test.YtpkbpeeelpgmcaaGreatXOpUM
import Derived.Test.YtpkbpeeelpgmcaaGreatXLibYetM
import Derived.Test.YtpkbpeeelpgmcaaGreatXWdFrM
namespace Go.Proofs.YtpkbpeeelpgmcaaGreat
open Go.RowKit Go.Kq Go.Flow

theorem cut_nn {R : Nat → Bool} : ∀ L : List Pi, (∀ p ∈ L, 0 ≤ p.mo) → 0 ≤ cut R L
  | [], _ => by simp [cut]
  | p :: L, h => by
    have h1 := cut_nn (R := R) L fun q hq => h q (by simp [hq])
    have h2 := h p (by simp)
    unfold cut
    split <;> omega
theorem out_nn {N : Net} (hN : N.Ok) (h : Bool) (R : Nat → Bool) : 0 ≤ N.out h R := by
  refine cut_nn _ fun p hp => ?_
  obtain ⟨t, ht, rfl⟩ := List.mem_map.1 hp
  exact (hN.cap ht h).1
set_option maxHeartbeats 4000000 in
set_option maxRecDepth 100000 in
theorem Outside_any (N : Net) (hN : N.Ok) (A B D V : Option Addr) (ca cb dc vc : Nat) (ds : List Int) (bs : List Bool) (w : World) (hR : RdNet w A B N) (hD : RdI .i64 w D N.ch.length ds) (hV : Rd b1 1 w V N.n bs) (hd : ∀ d ∈ ds, 0 ≤ d ∧ d ≤ 1000000000000) :
    Calls Tryz.prog 53 #[netV N A B ca cb, .slice D N.ch.length dc, .slice V N.n vc] w fun e w' => e = .returned (.int .i64 (sumZ ds - N.wt false ds (ofRow bs))) ∧ Kp No w w' := by
  have hl := hD.1
  have hc16 := hN.c1
  have HO := Lib.hid (show sumZ ds - N.wt false ds (ofRow bs) = - N.out false (ofRow bs) + sumM (fun i => !ofRow bs (N.ch.getD i 0)) ds by
    have := sumM_out (ofRow bs) N.ch ds hl
    unfold Net.wt
    omega)
  have hob := hN.out_le false (ofRow bs)
  have hon := out_nn hN false (ofRow bs)
  obtain ⟨w0, hw0⟩ : ∃ w0, w.alloc (.cells #[.int .i64 N.n, .slice A N.tr.length ca, .slice B N.ch.length cb] 25) = w0 := ⟨_, rfl⟩
  have hk0 : Kp No w w0 := by rw [← hw0]; exact Kp.alloc _ _ _
  have HB0 := Lib.hid (show w0.heap[w.heap.size]? = some (.cells #[.int .i64 N.n, .slice A N.tr.length ca, .slice B N.ch.length cb] 25 (0, 0)) by rw [← hw0]; exact heap_alloc_new w _)
  have OA := out_any N hN A B V ca cb vc false bs w0 (hR.no hk0) (hV.no hk0)
  unfold netV at OA ⊢
  replace OA := Lib.hid OA
  have HN := Lib.hid hN
  have HR := Lib.hid (hR.no hk0)
  have HD := Lib.hid (hD.no hk0)
  have HV := Lib.hid (hV.no hk0)
  have K0 := Lib.hid hk0
  have HL := Lib.hid hl
  have HSB := Lib.hid (fun (c : Nat → Bool) (k : Nat) => sumM_bd c (ds.take k) fun d h => hd d (List.mem_of_mem_take h))
  have HDD := Lib.hid hd
  rw [HO.out]
  generalize hou : N.out false (ofRow bs) = ou at *
  clear hR hD hV hk0 hN hl hd hou HO
  obtain ⟨x0, x1, x2⟩ := box3 HB0.out
  go_enter Tryz.func53, Tryz.ntmps53
  go_wp2_with fail
  with_reducible refine OA.out.mono ?_
  rintro e w1 ⟨rfl, k1⟩
  have HB1 := Lib.hid (k1.heap HB0.out id)
  have K1 := Lib.hid k1
  clear x0 x1 x2 k1
  have ew : wrap64 (-ou) = -ou := IntWalk.wrap64_in _ (by omega)
  go_wp2_with fail
  try rw [ew]
  clear ew
  obtain ⟨cc, hcc⟩ : ∃ cc : Nat → Bool, cc = fun i => !ofRow bs (N.ch.getD i 0) := ⟨_, rfl⟩
  have HCC := Lib.hid hcc
  clear hcc
  go_loopw [7, 8] (fun s i wr => ∃ k : Nat, k ≤ N.ch.length ∧ i = .int .i64 (k : Nat) ∧ s = .int .i64 (-ou + sumM cc (ds.take k)) ∧ Kp No w1 wr) (fun _ i _ => N.ch.length - (intOf i).toNat)
  case atStart => exact ⟨0, by omega, rfl, by simp [sumM], Kp.refl _ _⟩
  case round =>
    obtain ⟨k, hk, rfl, rfl, hkp⟩ := hrel
    obtain ⟨x0, x1, x2⟩ := box3 (hkp.heap HB1.out id)
    have hbb := (Array.getElem?_eq_some_iff.1 (hkp.heap HB1.out id)).1
    have HK := Lib.hid hkp
    have HKW := Lib.hid (K1.out.tr hkp)
    have hsb := HSB.out cc k
    have hsl : (ds.take k).length ≤ 16 := by rw [List.length_take, HL.out]; omega
    have hs2 : (1000000000000 : Int) * ((ds.take k).length : Int) ≤ 16000000000000 := by omega
    obtain ⟨b1', b2'⟩ := hsb
    clear hkp
    by_cases hlt : k < N.ch.length
    · obtain ⟨d, hd⟩ : ∃ d, ds[k]? = some d := ⟨_, List.getElem?_eq_getElem (by rw [HL.out]; exact hlt)⟩
      obtain ⟨c, hc⟩ : ∃ c, N.ch[k]? = some c := ⟨_, List.getElem?_eq_getElem hlt⟩
      have hcm : (N.ch.map Int.ofNat)[k]? = some (c : Int) := by rw [List.getElem?_map, hc]; rfl
      have hcn := (HN.out.ck c (List.mem_of_getElem? hc)).2
      have hcn' : (c : Int) < N.n := by omega
      obtain ⟨bB, oB, rfl, hbB, z0⟩ := (HR.out.no HKW.out).ch.2 k _ hcm
      obtain ⟨bD, oD, rfl, hbD, z1⟩ := (HD.out.no HKW.out).2 k d hd
      obtain ⟨bV, oV, rfl, hbV, z2⟩ := rd_bool (HV.out.no HKW.out) hcn
      have hd1 := HDD.out d (List.mem_of_getElem? hd)
      have HT := Lib.hid (sumM_take cc ds k d hd)
      have HCK := Lib.hid (show cc k = !ofRow bs c by rw [HCC.out]; show (!ofRow bs (N.ch.getD k 0)) = _; rw [List.getD_eq_getElem?_getD, hc]; rfl)
      clear hd hc hcm
      generalize sumM cc (ds.take k) = S at *
      obtain ⟨d1, d2⟩ := hd1
      cases hr : ofRow bs c with
      | true =>
        rw [hr] at z2 HCK
        clear hr
        go_wp2_with fail
        go_roundw
        case rel => exact ⟨k + 1, by omega, by go_num, by rw [HT.out, HCK.out]; simp, HK.out⟩
        case measure => simp [intOf]; omega
      | false =>
        rw [hr] at z2 HCK
        clear hr
        go_wp2_with fail
        go_roundw
        case rel => exact ⟨k + 1, by omega, by go_num, by rw [HT.out, HCK.out]; simp [Int.add_assoc], HK.out⟩
        case measure => simp [intOf]; omega
    · obtain rfl : k = N.ch.length := by omega
      have HE := Lib.hid (show sumM cc (ds.take N.ch.length) = sumM (fun i => !ofRow bs (N.ch.getD i 0)) ds by rw [← HCC.out, List.take_of_length_le (by rw [HL.out]; exact Nat.le_refl _)])
      rw [HE.out]
      go_wp2_with fail
      go_ret
      exact ⟨rfl, K0.out.tr HKW.out⟩
end Go.Proofs.YtpkbpeeelpgmcaaGreat

namespace Go.Proofs.YtpkbpeeelpgmcaaGreat
open Go.Flow

def exN : Net := ⟨3, [⟨0, 1, 100, 120⟩, ⟨0, 2, 50, 60⟩], [1, 2]⟩
def exL : List Sto := [⟨0, [30, 40]⟩, ⟨1, [30, 30]⟩, ⟨0, [50, 10]⟩]
theorem exN_ok : exN.Ok where
  n1 := by decide
  n2 := by decide
  t1 := by decide
  c1 := by decide
  tk := by
    intro t ht
    simp [exN] at ht
    rcases ht with rfl | rfl <;> simp [exN]
  ck := by
    intro c hc
    simp [exN] at hc
    rcases hc with rfl | rfl <;> simp [exN]
  asc := by decide
theorem wt_ex (d0 d1 : Int) (R : Nat → Bool) (h0 : R 0 = true) : exN.wt false [d0, d1] R = (if R 1 then 0 else 100) + (if R 2 then 0 else 50) + ((if R 1 then d0 else 0) + (if R 2 then d1 else 0)) := by
  cases h1 : R 1 <;> cases h2 : R 2 <;> simp [Net.wt, Net.out, exN, cut, held, tp, Tk.cap, h0, h1, h2]
theorem stv_ex (d0 d1 : Int) : Stv exN [d0, d1] ↔ 150 < d0 + d1 ∨ 50 < d1 ∨ 100 < d0 := by
  unfold Stv
  constructor
  · rintro ⟨R, ⟨h0, _⟩, h⟩
    rw [wt_ex d0 d1 R h0] at h
    simp only [sumZ] at h
    cases h1 : R 1 <;> cases h2 : R 2 <;> rw [h1, h2] at h <;> simp at h <;> omega
  · rintro (h | h | h)
    · refine ⟨fun v => v == 0, ⟨rfl, rfl⟩, ?_⟩
      rw [wt_ex d0 d1 _ rfl]
      simp [sumZ]
      omega
    · refine ⟨fun v => v == 0 || v == 1, ⟨rfl, rfl⟩, ?_⟩
      rw [wt_ex d0 d1 _ rfl]
      simp [sumZ]
      omega
    · refine ⟨fun v => v == 0 || v == 2, ⟨rfl, rfl⟩, ?_⟩
      rw [wt_ex d0 d1 _ rfl]
      simp [sumZ]
      omega
def exB (ss ks : List Nat) : Bool := decide (150 < (dmd 2 exL ss ks).getD 0 0 + (dmd 2 exL ss ks).getD 1 0) || (decide (50 < (dmd 2 exL ss ks).getD 1 0) || decide (100 < (dmd 2 exL ss ks).getD 0 0))
theorem two_list {ds : List Int} (h : ds.length = 2) : ds = [ds.getD 0 0, ds.getD 1 0] := by
  match ds, h with
  | [a, b], _ => rfl
theorem starB_ex (ss ks : List Nat) : starB exN exL ss ks = exB ss ks := by
  rw [Bool.eq_iff_iff, starB_iff]
  have h := two_list (dmd_len 2 exL ss ks)
  rw [show exN.ch.length = 2 from rfl, h, stv_ex]
  unfold exB
  simp only [Bool.or_eq_true, decide_eq_true_eq]
theorem dmd_ex : dmd 2 exL [0, 2] [0, 1] = [130, 0] := by decide
theorem sta_ex1 : Stv exN (dmd exN.ch.length exL [0, 2] [0, 1]) := starB_iff.1 (by rw [starB_ex]; decide)
theorem sta_ex2 : ¬ Stv exN (dmd exN.ch.length exL [0, 2] [0]) := fun h => by
  have := starB_iff.2 h
  rw [starB_ex] at this
  exact absurd this (by decide)
def exR (v : Nat) : Bool := v == 0 || v == 2
theorem min_ex : Min exN.A0 (exN.wt false (dmd exN.ch.length exL [0, 2] [0, 1])) exR := by
  rw [show exN.ch.length = 2 from rfl, dmd_ex]
  refine ⟨⟨rfl, rfl⟩, fun S hS => ?_⟩
  rw [wt_ex 130 0 exR rfl, wt_ex 130 0 S hS.1]
  have e1 : exR 1 = false := rfl
  have e2 : exR 2 = true := rfl
  rw [e1, e2]
  cases h1 : S 1 <;> cases h2 : S 2 <;> simp
  intro v hv
  simp [exR] at hv
  rcases hv with rfl | rfl
  · exact hS.1
  · exact h2
theorem mem_ex : mem exR 3 = [0, 2] := by decide
theorem saf_ex1 : safN (keysN exL) (starB exN exL [1]) = 1 := by
  rw [show starB exN exL [1] = exB [1] from funext fun ks => starB_ex [1] ks]
  decide
theorem saf_ex0 : safN (keysN exL) (starB exN exL [0]) = 2 := by
  rw [show starB exN exL [0] = exB [0] from funext fun ks => starB_ex [0] ks]
  decide
def exC : List Cb := [⟨[1], [0, 1]⟩, ⟨[0, 2], [0, 1]⟩]
theorem lea_ex (p : Cb → Bool) (hp : ∀ c, p c = exB c.st c.ky) : leaC 3 2 p = exC := by
  obtain rfl : p = fun c => exB c.st c.ky := funext hp
  refine upC_ext (leaC_up _ _ _) (by unfold UpC exC; decide) fun x => ?_
  have h : (allC 3 2).filter (minB 3 2 fun c => exB c.st c.ky) = exC := by decide +kernel
  rw [mem_leaC, ← mem_allC, ← h, List.mem_filter]
end Go.Proofs.YtpkbpeeelpgmcaaGreat

namespace Go.Proofs.YtpkbpeeelpgmcaaGreat
open Go.RowKit Go.Kq Go.Flow

theorem rd_heap {α : Type} {f : α → List Value} {s : Nat} {w : World} {b : Nat} {e : TypeId} {mm : Nat × Nat} {vs : List α} {cs : List Value} (hf : ∀ x, (f x).length = s) (hc : vs.flatMap f = cs) (h : w.heap[b]? = some (.cells cs.toArray e mm)) : Rd f s w (some ⟨b, 0, none⟩) vs.length vs := by
  subst hc
  refine ⟨rfl, fun i v hv => ⟨b, 0, rfl, (Array.getElem?_eq_some_iff.1 h).1, fun j u hj => ?_⟩⟩
  rw [cell_of_row _ _ _ _ _ _ h, Nat.zero_add]
  have := flat_at hf vs i v j u hv hj
  simpa using this
theorem rdi_heap {w : World} {b : Nat} {e : TypeId} {mm : Nat × Nat} {xs : List Int} {cs : List Value} (hc : xs.map (Value.int .i64) = cs) (h : w.heap[b]? = some (.cells cs.toArray e mm)) : RdI .i64 w (some ⟨b, 0, none⟩) xs.length xs := by
  subst hc
  refine ⟨rfl, fun i v hv => ⟨b, 0, rfl, (Array.getElem?_eq_some_iff.1 h).1, ?_⟩⟩
  rw [cell_of_row _ _ _ _ _ _ h, Nat.zero_add]
  simp [hv]
/-- What example hands out. -/
def ExR (w : World) (e : Ending) (w' : World) : Prop := ∃ A B C vs, e = .returned (windV (nz exN) A B C 2 2 3 3) ∧ RdNet w' A B exN ∧ RdSt w' C 3 vs exL ∧ Kp No w w'
theorem heap_up {w : World} {b : Nat} {x : Obj} (h : w.heap[b]? = some x) (o : Obj) : (w.alloc o).heap[b]? = some x := (Kp.alloc No w o).heap h id
set_option maxHeartbeats 4000000 in
set_option maxRecDepth 100000 in
theorem example_any (w : World) : Calls Tryz.prog 19 #[] w (ExR w) := by
  go_enter Tryz.func19, Tryz.ntmps19
  go_wp2_with fail
  obtain ⟨b, hb⟩ : ∃ b, b = w.heap.size := ⟨_, rfl⟩
  have K : Kp No w _ := (((((((Kp.alloc No w (.cells #[.int .i64 3, .slice (some ⟨w.heap.size + 1, 0, none⟩) 2 2, .slice (some ⟨w.heap.size + 1 + 1, 0, none⟩) 2 2, .slice (some ⟨w.heap.size + 1 + 1 + 1 + 1 + 1 + 1, 0, none⟩) 3 3] 28)).tr (Kp.alloc No _ (.cells #[.int .i64 0, .int .i64 1, .int .i64 100, .int .i64 120, .int .i64 0, .int .i64 2, .int .i64 50, .int .i64 60] 80))).tr (Kp.alloc No _ (.cells #[.int .i64 1, .int .i64 2] 3))).tr (Kp.alloc No _ (.cells #[.int .i64 30, .int .i64 40] 2))).tr (Kp.alloc No _ (.cells #[.int .i64 30, .int .i64 30] 2))).tr (Kp.alloc No _ (.cells #[.int .i64 50, .int .i64 10] 2))).tr (Kp.alloc No _ (.cells #[.int .i64 0, .slice (some ⟨w.heap.size + 1 + 1 + 1, 0, none⟩) 2 2, .int .i64 1, .slice (some ⟨w.heap.size + 1 + 1 + 1 + 1, 0, none⟩) 2 2, .int .i64 0, .slice (some ⟨w.heap.size + 1 + 1 + 1 + 1 + 1, 0, none⟩) 2 2] 45)))
  have hn : ∀ (w : World) (o : Obj) (k : Nat), k = w.heap.size → (w.alloc o).heap[k]? = some o := fun w o k h => by subst h; exact World.alloc_heap_new w o
  have h0 := heap_up (heap_up (heap_up (heap_up (heap_up (heap_up (hn w (.cells #[.int .i64 3, .slice (some ⟨w.heap.size + 1, 0, none⟩) 2 2, .slice (some ⟨w.heap.size + 1 + 1, 0, none⟩) 2 2, .slice (some ⟨w.heap.size + 1 + 1 + 1 + 1 + 1 + 1, 0, none⟩) 3 3] 28) w.heap.size rfl) (.cells #[.int .i64 0, .int .i64 1, .int .i64 100, .int .i64 120, .int .i64 0, .int .i64 2, .int .i64 50, .int .i64 60] 80)) (.cells #[.int .i64 1, .int .i64 2] 3)) (.cells #[.int .i64 30, .int .i64 40] 2)) (.cells #[.int .i64 30, .int .i64 30] 2)) (.cells #[.int .i64 50, .int .i64 10] 2)) (.cells #[.int .i64 0, .slice (some ⟨w.heap.size + 1 + 1 + 1, 0, none⟩) 2 2, .int .i64 1, .slice (some ⟨w.heap.size + 1 + 1 + 1 + 1, 0, none⟩) 2 2, .int .i64 0, .slice (some ⟨w.heap.size + 1 + 1 + 1 + 1 + 1, 0, none⟩) 2 2] 45)
  generalize hW : World.alloc _ (.cells #[.int .i64 0, .slice (some ⟨w.heap.size + 1 + 1 + 1, 0, none⟩) 2 2, .int .i64 1, .slice (some ⟨w.heap.size + 1 + 1 + 1 + 1, 0, none⟩) 2 2, .int .i64 0, .slice (some ⟨w.heap.size + 1 + 1 + 1 + 1 + 1, 0, none⟩) 2 2] 45) = W at *
  have h1 : W.heap[w.heap.size + 1]? = some (.cells #[.int .i64 0, .int .i64 1, .int .i64 100, .int .i64 120, .int .i64 0, .int .i64 2, .int .i64 50, .int .i64 60] 80 (0, 0)) := by
    rw [← hW]
    exact heap_up (heap_up (heap_up (heap_up (heap_up (hn _ _ _ (by simp)) _) _) _) _) _
  have h2 : W.heap[w.heap.size + 1 + 1]? = some (.cells #[.int .i64 1, .int .i64 2] 3 (0, 0)) := by
    rw [← hW]
    exact heap_up (heap_up (heap_up (heap_up (hn _ _ _ (by simp)) _) _) _) _
  have h3 : W.heap[w.heap.size + 1 + 1 + 1]? = some (.cells #[.int .i64 30, .int .i64 40] 2 (0, 0)) := by
    rw [← hW]
    exact heap_up (heap_up (heap_up (hn _ _ _ (by simp)) _) _) _
  have h4 : W.heap[w.heap.size + 1 + 1 + 1 + 1]? = some (.cells #[.int .i64 30, .int .i64 30] 2 (0, 0)) := by
    rw [← hW]
    exact heap_up (heap_up (hn _ _ _ (by simp)) _) _
  have h5 : W.heap[w.heap.size + 1 + 1 + 1 + 1 + 1]? = some (.cells #[.int .i64 50, .int .i64 10] 2 (0, 0)) := by
    rw [← hW]
    exact heap_up (hn _ _ _ (by simp)) _
  have h6 : W.heap[w.heap.size + 1 + 1 + 1 + 1 + 1 + 1]? = some (.cells #[.int .i64 0, .slice (some ⟨w.heap.size + 1 + 1 + 1, 0, none⟩) 2 2, .int .i64 1, .slice (some ⟨w.heap.size + 1 + 1 + 1 + 1, 0, none⟩) 2 2, .int .i64 0, .slice (some ⟨w.heap.size + 1 + 1 + 1 + 1 + 1, 0, none⟩) 2 2] 45 (0, 0)) := by
    rw [← hW]
    exact hn _ _ _ (by simp)
  clear hW
  obtain ⟨f0, f1, f2, f3⟩ := four_at h0
  refine bodyPost_ret (v := .agg #[.int .i64 3, .slice (some ⟨w.heap.size + 1, 0, none⟩) 2 2, .slice (some ⟨w.heap.size + 1 + 1, 0, none⟩) 2 2, .slice (some ⟨w.heap.size + 1 + 1 + 1 + 1 + 1 + 1, 0, none⟩) 3 3]) (by simp [results, Tryz.results19, go_sem, f0, f1, f2, f3]) rfl ?_
  refine ⟨some ⟨w.heap.size + 1, 0, none⟩, some ⟨w.heap.size + 1 + 1, 0, none⟩, some ⟨w.heap.size + 1 + 1 + 1 + 1 + 1 + 1, 0, none⟩, [⟨0, some ⟨w.heap.size + 1 + 1 + 1, 0, none⟩, 2, 2⟩, ⟨1, some ⟨w.heap.size + 1 + 1 + 1 + 1, 0, none⟩, 2, 2⟩, ⟨0, some ⟨w.heap.size + 1 + 1 + 1 + 1 + 1, 0, none⟩, 2, 2⟩], rfl, ⟨?_, ?_⟩, ⟨?_, rfl, ?_⟩, K⟩
  · exact rd_heap (fun _ => rfl) rfl h1
  · exact rdi_heap rfl h2
  · exact rd_heap (fun _ => rfl) rfl h6
  · intro i v s hv hs
    match i, hv, hs with
    | 0, hv, hs => cases hv; cases hs; exact ⟨rfl, rfl, rdi_heap rfl h3⟩
    | 1, hv, hs => cases hv; cases hs; exact ⟨rfl, rfl, rdi_heap rfl h4⟩
    | 2, hv, hs => cases hv; cases hs; exact ⟨rfl, rfl, rdi_heap rfl h5⟩
    | i + 3, hv, hs => simp at hv
end Go.Proofs.YtpkbpeeelpgmcaaGreat

namespace Go.Proofs.YtpkbpeeelpgmcaaGreat
open Go.RowKit Go.Kq Go.Flow

theorem flat_one {α : Type} (f : α → Value) : ∀ l : List α, (l.flatMap fun a => [f a]) = l.map f
  | [] => rfl
  | x :: l => by rw [List.flatMap_cons, flat_one f l]; rfl
def inRow (n : Nat) (ml : List Nat) : List Value := (List.range n).map fun v => .bool (decide (v ∈ ml))
theorem inRow_nil (n : Nat) : inRow n [] = List.replicate n (Value.bool false) := by
  unfold inRow
  apply List.ext_getElem (by simp)
  intro i h1 h2
  simp
theorem inRow_at {n x : Nat} (h : x < n) (ml : List Nat) : (inRow n ml)[x]? = some (.bool (decide (x ∈ ml))) := by
  unfold inRow
  rw [List.getElem?_map, List.getElem?_range h]
  rfl
theorem inRow_set {n x : Nat} (ml : List Nat) : (inRow n ml).set x (.bool true) = inRow n (ml ++ [x]) := by
  unfold inRow
  apply List.ext_getElem (by simp)
  intro i h1 h2
  rw [List.getElem_set]
  by_cases e : x = i
  · subst e
    simp
  · have e2 : i ≠ x := fun h => e h.symm
    simp [e, e2]
theorem heap_set {w : World} {g x : Nat} {cs : List Value} {e : TypeId} {mm : Nat × Nat} (h : w.heap[g]? = some (.cells cs.toArray e mm)) (v : Value) : (w.setCell ⟨g, x, none⟩ v).heap[g]? = some (.cells (cs.set x v).toArray e mm) := by
  simp [World.setCell, Array.getElem?_modify, h]
theorem rd_in {w : World} {g n : Nat} {ml : List Nat} {e : TypeId} {mm : Nat × Nat} (h : w.heap[g]? = some (.cells (inRow n ml).toArray e mm)) : Rd b1 1 w (some ⟨g, 0, none⟩) n ((List.range n).map fun v => decide (v ∈ ml)) := by
  have h2 := rd_heap (f := b1) (s := 1) (vs := (List.range n).map fun v => decide (v ∈ ml)) (fun _ => rfl) (by unfold inRow b1; rw [List.flatMap_map]; exact flat_one _ _) h
  simpa using h2
theorem cutP_congr {R R' : Nat → Bool} : ∀ L : List Pi, (∀ p ∈ L, R p.fr = R' p.fr ∧ R p.to = R' p.to) → cut R L = cut R' L
  | [], _ => rfl
  | p :: L, h => by
    have h1 := h p (by simp)
    unfold cut
    rw [h1.1, h1.2, cutP_congr L fun q hq => h q (by simp [hq])]
theorem heldP_congr {R R' : Nat → Bool} : ∀ L : List (Nat × Int), (∀ x ∈ L, R x.1 = R' x.1) → held R L = held R' L
  | [], _ => rfl
  | x :: L, h => by
    unfold held
    rw [h x (by simp), heldP_congr L fun q hq => h q (by simp [hq])]
theorem wtP_congr {N : Net} (hN : N.Ok) (ds : List Int) {R R' : Nat → Bool} (h : ∀ v, v < N.n → R v = R' v) : N.wt false ds R = N.wt false ds R' := by
  unfold Net.wt Net.out
  rw [cutP_congr (R := R) (R' := R') _ fun p hp => by
    obtain ⟨t, ht, rfl⟩ := List.mem_map.1 hp
    have := hN.tk t ht
    exact ⟨h _ this.1, h _ this.2.1⟩]
  rw [heldP_congr (R := R) (R' := R') _ fun x hx => h _ (hN.ck _ (List.of_mem_zip hx).1).2]
theorem of_in {N : Net} (R : Nat → Bool) (v : Nat) (hv : v < N.n) : ofRow ((List.range N.n).map fun v => decide (v ∈ mem R N.n)) v = R v := by
  unfold ofRow
  rw [List.getD_eq_getElem?_getD, List.getElem?_map, List.getElem?_range hv]
  show decide (v ∈ mem R N.n) = R v
  unfold mem
  rw [Bool.eq_iff_iff, decide_eq_true_eq, List.mem_filter]
  exact ⟨fun h => h.2, fun h => ⟨List.mem_range.2 hv, h⟩⟩
theorem mem_up (R : Nat → Bool) (n : Nat) : (mem R n).Pairwise (· < ·) := List.Pairwise.filter _ List.pairwise_lt_range
theorem mem_lt {R : Nat → Bool} {n x : Nat} (h : x ∈ mem R n) : x < n := List.mem_range.1 (List.mem_filter.1 h).1
theorem up_not_take {l : List Nat} (h : l.Pairwise (· < ·)) {k x : Nat} (hx : l[k]? = some x) : x ∉ l.take k := fun hm => by
  obtain ⟨i, hi, e⟩ := List.mem_iff_getElem.1 hm
  have hk := (List.getElem?_eq_some_iff.1 hx)
  obtain ⟨hk1, hk2⟩ := hk
  have hi2 : i < k := by rw [List.length_take] at hi; omega
  have := List.pairwise_iff_getElem.1 h i k (by omega) hk1 hi2
  rw [List.getElem_take] at e
  rw [e, hk2] at this
  omega
end Go.Proofs.YtpkbpeeelpgmcaaGreat
