/- Chapter 09: plain: the reference's least number of plates in two steps is the program's. · Chapter 09: the reference's plate and Least: the walks. · Chapter 09: the reference's Quick while it runs: its rows. · Chapter 09: the reference's Groups: the walk. -/
import Derived.Test.YtamjhpdgclbfgaaXLibBoxM
import Derived.Test.YtamjhpdgclbfgaaXRfAM
import Derived.Test.YtamjhpdgclbfgaaXBodM
import Derived.Test.YtamjhpdgclbfgaaXQrFM
import Derived.Test.YtamjhpdgclbfgaaXNtBM
namespace Go.Proofs.Ytamjhpdgclbfgaa
open Go.RowKit Go.Kq

theorem ceil_two (n a b : Int) (hb : 0 < b) : (n + a * b - 1) / (a * b) = ((n + b - 1) / b + a - 1) / a := by
  have e1 : a * b = b * a := Int.mul_comm _ _
  have e2 : n + a * b - 1 = (n + b - 1) + b * (a - 1) := by
    rw [Int.mul_sub, e1]
    omega
  rw [e2, e1, ← Int.ediv_ediv_of_nonneg (by omega), Int.add_mul_ediv_left _ _ (by omega)]
  congr 1
  omega
end Go.Proofs.Ytamjhpdgclbfgaa

namespace Go.Proofs.Ytamjhpdgclbfgaa
open Go.RowKit Go.Kq

set_option maxHeartbeats 4000000 in
theorem plate_any (P : Pt) (A : Option Addr) (n ca : Nat) (l : List Ct) (m : Int) (w : World) (hx : RdC w A n l) (hn : n ≤ 100000000) :
    Calls Try.prog 29 #[P.val, .slice A n ca, .int .i64 m] w fun e w' => e = .returned (.int .i64 (jchk P l m)) ∧ Kp No w w' := by
  have HX := Lib.hid hx
  have HW := Lib.hid (fun w0 => valid_any ⟨P.w, P.h⟩ w0)
  have HO := Lib.hid (fun w0 => from_any P.k 0 50000 w0)
  have HC := Lib.hid (fun w0 (k : Kp No w w0) => cuts_any A n ca l m w0 (hx.no k) hn)
  have HJ := Lib.hid (show jchk P l m = if m < (n : Int) then 3 else if badC ⟨P.w, P.h⟩ || outB P.k 0 50000 || l.any badC then 2 else 0 by unfold jchk jbad; rw [hx.1])
  have HE := Lib.hid (show cutE l m = if m < (n : Int) then 3 else if l.any badC then 2 else 0 by unfold cutE; rw [hx.1])
  clear hx
  obtain ⟨jr, hjr⟩ : ∃ jr, jchk P l m = jr := ⟨_, rfl⟩
  rw [hjr] at HJ ⊢
  clear hjr
  simp only [Ct.val] at HW
  unfold Pt.val
  generalize badC ⟨P.w, P.h⟩ = q1 at *
  generalize outB P.k 0 50000 = q2 at *
  generalize l.any badC = q3 at *
  clear HX
  have hk0 : Kp No w (w.alloc (.cells #[.int .i64 P.w, .int .i64 P.h, .int .i64 P.k] 23)) := Kp.alloc _ _ _
  have hbx : (w.alloc (.cells #[.int .i64 P.w, .int .i64 P.h, .int .i64 P.k] 23)).heap[w.heap.size]? = some (.cells #[.int .i64 P.w, .int .i64 P.h, .int .i64 P.k] 23 (0, 0)) := heap_alloc_new _ _
  go_enter Try.func29, Try.ntmps29
  by_cases hm : m < (n : Int)
  · rw [if_pos hm] at HJ
    clear HE
    go_wp2_with fail
    go_ret
    exact ⟨ret_i64 HJ.out.symm, hk0⟩
  rw [if_neg hm] at HE HJ
  go_wp2_with fail
  with_reducible refine (HW.out _).mono ?_
  rintro e w1 ⟨rfl, k1⟩
  have hbx1 := k1.heap hbx id
  obtain ⟨gb, hgb⟩ : ∃ gb, gb = w.heap.size := ⟨_, rfl⟩
  rw [← hgb] at hbx1 ⊢
  have b2 : w1.cell? ⟨gb, 2, none⟩ = some (.int .i64 P.k) := by rw [cell_of_row _ _ _ _ _ _ hbx1]; rfl
  have HK := Lib.hid (hk0.tr k1)
  clear hbx hbx1 hgb k1 hk0
  cases q1
  rotate_left
  · have HJ2 := Lib.hid (show jr = 2 by rw [HJ.out]; simp)
    go_wp2_with fail
    go_ret
    exact ⟨ret_i64 HJ2.out.symm, HK.out⟩
  go_wp2_with fail
  with_reducible refine (HO.out _).mono ?_
  rintro e w2 ⟨rfl, hw⟩
  subst hw
  cases q2
  rotate_left
  · have HJ2 := Lib.hid (show jr = 2 by rw [HJ.out]; simp)
    go_wp2_with fail
    go_ret
    exact ⟨ret_i64 HJ2.out.symm, HK.out⟩
  go_wp2_with fail
  with_reducible refine (HC.out _ HK.out).mono ?_
  rintro e w2 ⟨rfl, k2⟩
  have K2 := Lib.hid (HK.out.tr k2)
  clear k2 HK b2 hm
  have HF := Lib.hid (show cutE l m = jr by rw [HE.out, HJ.out]; rfl)
  clear HE HJ
  go_wp2_with fail
  go_ret
  exact ⟨ret_i64 HF.out, K2.out⟩
theorem div_go {a b : Int} (ha : 0 ≤ a) (_hb : 0 < b) : Int.tdiv a b = a / b := Int.tdiv_eq_ediv_of_nonneg ha
set_option maxHeartbeats 4000000 in
theorem rLeast_any (P : Pt) (A : Option Addr) (n ca : Nat) (l : List Ct) (w : World) (hx : RdC w A n l) (hn : n ≤ 100000000) :
    Calls Try.prog 18 #[P.val, .slice A n ca] w fun e w' => e = .returned (.tuple #[.int .i64 (lstV P l).1, .int .i64 (lstV P l).2]) ∧ Kp No w w' := by
  have hk0 : Kp No w (w.alloc (.cells #[.int .i64 P.w, .int .i64 P.h, .int .i64 P.k] 23)) := Kp.alloc _ _ _
  have hbx : (w.alloc (.cells #[.int .i64 P.w, .int .i64 P.h, .int .i64 P.k] 23)).heap[w.heap.size]? = some (.cells #[.int .i64 P.w, .int .i64 P.h, .int .i64 P.k] 23 (0, 0)) := heap_alloc_new _ _
  have HC := Lib.hid (plate_any P A n ca l 200 _ (hx.no hk0) hn)
  have HV := Lib.hid (show lstV P l = if jchk P l 200 = 0 then ((sumA P.k l + (P.w + P.k) * (P.h + P.k) - 1) / ((P.w + P.k) * (P.h + P.k)), 0) else (0, jchk P l 200) from rfl)
  have HX := Lib.hid hx
  have HL := Lib.hid hx.1
  clear hx
  unfold Pt.val at HC ⊢
  rw [HV.out]
  clear HV
  by_cases hc : jchk P l 200 = 0
  rotate_left
  · rw [if_neg hc]
    generalize jchk P l 200 = c at *
    have hcn : (c != 0) = true := by rw [bne_iff_ne]; exact hc
    clear HX HL hbx
    go_enter Try.func18, Try.ntmps18
    go_wp2_with fail
    with_reducible refine HC.out.mono ?_
    rintro e w1 ⟨rfl, k1⟩
    go_wp2_with fail
    exact bodyPost_ret (v := .tuple #[.int .i64 0, .int .i64 c]) (by simp [results, Try.results18, go_sem]) rfl ⟨rfl, hk0.tr k1⟩
  have J := Lib.hid (job_ok hc)
  rw [if_pos hc]
  rw [hc] at HC
  have ha := area_bd J.out.w J.out.h J.out.k
  have hb := sumA_bd J.out.k l J.out.cut
  have hl := J.out.len
  have hkk := J.out.k
  have hww := J.out.w
  have hhh := J.out.h
  have hn2 : n ≤ 200 := by have := HL.out; omega
  have HD := Lib.hid (show (sumA P.k l + (P.w + P.k) * (P.h + P.k) - 1) / ((P.w + P.k) * (P.h + P.k)) = ((sumA P.k l + P.h + P.k - 1) / (P.h + P.k) + P.w + P.k - 1) / (P.w + P.k) by
    rw [ceil_two _ _ _ (by omega)]
    have e1 : sumA P.k l + (P.h + P.k) - 1 = sumA P.k l + P.h + P.k - 1 := by omega
    rw [e1]
    have e2 : (sumA P.k l + P.h + P.k - 1) / (P.h + P.k) + (P.w + P.k) - 1 = (sumA P.k l + P.h + P.k - 1) / (P.h + P.k) + P.w + P.k - 1 := by omega
    rw [e2])
  rw [HD.out]
  have hq0 : 0 ≤ (sumA P.k l + P.h + P.k - 1) / (P.h + P.k) := Int.ediv_nonneg (by omega) (by omega)
  have hq1 : (sumA P.k l + P.h + P.k - 1) / (P.h + P.k) ≤ sumA P.k l + P.h + P.k - 1 := Int.ediv_le_self _ (by omega)
  have hs : sumA P.k l ≤ 80400500000000000 := by omega
  clear hc HD ha
  go_enter Try.func18, Try.ntmps18
  go_wp2_with fail
  with_reducible refine HC.out.mono ?_
  rintro e w1 ⟨rfl, k1⟩
  obtain ⟨gp, hgp⟩ : ∃ gp, gp = w.heap.size := ⟨_, rfl⟩
  rw [← hgp] at hbx ⊢
  have HB := Lib.hid (k1.heap hbx id)
  have HK := Lib.hid (hk0.tr k1)
  clear HC hbx hgp hk0 k1
  go_wp2_with fail
  go_loopw [7, 8] (fun v7 v20 wr => ∃ k : Nat, k ≤ n ∧ v20 = .int .i64 k ∧ v7 = .int .i64 (sumA P.k (l.take k)) ∧ Kp No w1 wr) (fun _ v20 _ => n - (intOf v20).toNat)
  case atStart => exact ⟨0, by omega, rfl, rfl, Kp.refl _ _⟩
  case round =>
    obtain ⟨k, hk, rfl, rfl, hkp⟩ := hrel
    have HB1 := Lib.hid (hkp.heap HB.out id)
    have b0 : wr.cell? ⟨gp, 0, none⟩ = some (.int .i64 P.w) := by rw [cell_of_row _ _ _ _ _ _ HB1.out]; rfl
    have b1 : wr.cell? ⟨gp, 1, none⟩ = some (.int .i64 P.h) := by rw [cell_of_row _ _ _ _ _ _ HB1.out]; rfl
    have b2 : wr.cell? ⟨gp, 2, none⟩ = some (.int .i64 P.k) := by rw [cell_of_row _ _ _ _ _ _ HB1.out]; rfl
    have HK1 := Lib.hid (HK.out.tr hkp)
    have HKP := Lib.hid hkp
    clear hkp
    by_cases hlt : k < n
    · obtain ⟨c, hv⟩ : ∃ c, l[k]? = some c := ⟨_, List.getElem?_eq_getElem (by rw [HL.out]; exact hlt)⟩
      have hcb := J.out.cut c (List.mem_of_getElem? hv)
      obtain ⟨b, o, rfl, hb', hc'⟩ := (HX.out.no HK1.out).2 k c hv
      have c0 := hc' 0 _ rfl
      have c1 := hc' 1 _ rfl
      simp only [Nat.add_zero] at c0
      have HS := Lib.hid (show sumA P.k (l.take (k + 1)) = sumA P.k (l.take k) + (c.w + P.k) * (c.h + P.k) by rw [List.take_add_one, hv]; exact sumA_snoc _ _ _)
      have h1 := sumA_bd J.out.k (l.take k) fun d hd => J.out.cut d (List.mem_of_mem_take hd)
      have h2 := area_bd hcb.1 hcb.2 J.out.k
      have h3 : (l.take k).length = k := by rw [List.length_take, HL.out]; omega
      rw [h3] at h1
      have h5 : (k : Int) ≤ 200 := by omega
      have hw0 : IntKind.i64.wrap (c.w + P.k) = c.w + P.k := IntWalk.i64_in _ (by omega)
      have hw3 : IntKind.i64.wrap (c.h + P.k) = c.h + P.k := IntWalk.i64_in _ (by omega)
      have hw1 : IntKind.i64.wrap ((c.w + P.k) * (c.h + P.k)) = (c.w + P.k) * (c.h + P.k) := IntWalk.i64_in _ (by omega)
      have hw2 : IntKind.i64.wrap (sumA P.k (l.take k) + (c.w + P.k) * (c.h + P.k)) = sumA P.k (l.take k) + (c.w + P.k) * (c.h + P.k) := IntWalk.i64_in _ (by omega)
      clear hv hc'
      go_wp2_with fail
      go_quiet (fail)
      go_wp2_with fail
      go_roundw
      case rel => exact ⟨k + 1, by omega, by go_num, by rw [HS.out], HKP.out.tr (Kp.drewN _ _ _)⟩
      case measure => simp [intOf]; omega
    · obtain rfl : k = n := by omega
      have HT := Lib.hid (show l.take k = l by rw [List.take_of_length_le (by rw [HL.out]; omega)])
      rw [HT.out]
      go_wp2_with fail
      exact bodyPost_ret (v := .tuple #[.int .i64 (((sumA P.k l + P.h + P.k - 1) / (P.h + P.k) + P.w + P.k - 1) / (P.w + P.k)), .int .i64 0]) (by simp [results, Try.results18, go_sem]) rfl ⟨rfl, HK1.out⟩
end Go.Proofs.Ytamjhpdgclbfgaa

namespace Go.Proofs.Ytamjhpdgclbfgaa
open Go.RowKit Go.Kq

def shC (K : Int) (s : Spo) : List Value := [.int .i64 s.p, .int .i64 s.y, .int .i64 (s.x - K)]
theorem shC_len (K : Int) : ∀ s, (shC K s).length = 3 := fun _ => rfl
def tpC (K : Int) (x : Int) : Value := .int .i64 (x - K)
structure QRo (w1 : World) (base go n : Nat) (v10 : Value) (ord : List Nat) (K : Int) (q : Qs) (v8 v9 : Value) (w : World) : Prop where
  kp : Kp No w1 w
  sh : w.ownsRow base 84 3 v8 q.sh.length (q.sh.flatMap (shC K))
  tp : w.ownsRow base 2 1 v9 q.tp.length (q.tp.map (tpC K))
  out : w.ownsRow base 52 4 (.slice (some ⟨go, 0, none⟩) n n) n (q.out.flatMap Spo.cells)
  ord : w.ownsRow base 3 1 v10 n (ord.map natI)
section
variable {w1 w w' : World} {base go n : Nat} {v10 : Value} {ord : List Nat} {K : Int} {q : Qs} {v8 v9 : Value}
theorem QRo.no (h : QRo w1 base go n v10 ord K q v8 v9 w) (k : Kp No w w') : QRo w1 base go n v10 ord K q v8 v9 w' :=
  ⟨h.kp.tr k, k.owns h.sh fun _ _ e => e, k.owns h.tp fun _ _ e => e, k.owns h.out fun _ _ e => e, k.owns h.ord fun _ _ e => e⟩
theorem QRo.appTp (h : QRo w1 base go n v10 ord K q v8 v9 w) (hb : w1.heap.size ≤ base) {v' : Value} {tp : List Int} (ho : w'.ownsRow base 2 1 v' tp.length (tp.map (tpC K))) (hg : w.grownBy w' v9.ownBlock) : QRo w1 base go n v10 ord K { q with tp := tp } v8 v' w' := by
  have hk : Kp (fun g => v9.ownBlock = some g) w w' := Kp.grown hg fun _ hk _ => hk
  exact ⟨kp_own h.kp hb h.tp hk fun _ s => s, hk.owns h.sh fun g hg s => own_apart h.tp h.sh (by decide) s hg, ho, hk.owns h.out fun g hg s => own_apart h.tp h.out (by decide) s hg, hk.owns h.ord fun g hg s => own_apart h.tp h.ord (by decide) s hg⟩
theorem QRo.appSh (h : QRo w1 base go n v10 ord K q v8 v9 w) (hb : w1.heap.size ≤ base) {v' : Value} {sh : List Spo} (ho : w'.ownsRow base 84 3 v' sh.length (sh.flatMap (shC K))) (hg : w.grownBy w' v8.ownBlock) : QRo w1 base go n v10 ord K { q with sh := sh } v' v9 w' := by
  have hk : Kp (fun g => v8.ownBlock = some g) w w' := Kp.grown hg fun _ hk _ => hk
  exact ⟨kp_own h.kp hb h.sh hk fun _ s => s, ho, hk.owns h.tp fun g hg s => own_apart h.sh h.tp (by decide) s hg, hk.owns h.out fun g hg s => own_apart h.sh h.out (by decide) s hg, hk.owns h.ord fun g hg s => own_apart h.sh h.ord (by decide) s hg⟩
theorem QRo.setTp {gt c : Nat} (h : QRo w1 base go n v10 ord K q v8 (.slice (some ⟨gt, 0, none⟩) q.tp.length c) w) (hb : w1.heap.size ≤ base) (k : Nat) {x : Int} {u : Int} (hu : u = x - K) : QRo w1 base go n v10 ord K { q with tp := q.tp.set k x } v8 (.slice (some ⟨gt, 0, none⟩) q.tp.length c) (w.setCell ⟨gt, k, none⟩ (.int .i64 u)) := by
  subst hu
  have hk : Kp (One gt) w (w.setCell ⟨gt, k, none⟩ (.int .i64 (x - K))) := kp_setOne _ _ _ _
  have hS : ∀ g, One gt g → Value.ownBlock (.slice (some ⟨gt, 0, none⟩) q.tp.length c) = some g := fun g e => by have e : g = gt := e; subst e; rfl
  refine ⟨kp_own h.kp hb h.tp hk hS, hk.owns h.sh fun g hg s => own_apart h.tp h.sh (by decide) (hS g s) hg, ?_, hk.owns h.out fun g hg s => own_apart h.tp h.out (by decide) (hS g s) hg, hk.owns h.ord fun g hg s => own_apart h.tp h.ord (by decide) (hS g s) hg⟩
  have := own_set h.tp k (tpC K x)
  rw [← List.map_set] at this
  show (w.setCell ⟨gt, k, none⟩ (tpC K x)).ownsRow base 2 1 _ (q.tp.set k x).length _
  rw [List.length_set]
  exact this
theorem QRo.setSh {gs c : Nat} (h : QRo w1 base go n v10 ord K q (.slice (some ⟨gs, 0, none⟩) q.sh.length c) v9 w) (hb : w1.heap.size ≤ base) {k : Nat} {s : Spo} (hs : q.sh[k]? = some s) {x u : Int} (hu : u = x - K) : QRo w1 base go n v10 ord K { q with sh := q.sh.set k { s with x := x } } (.slice (some ⟨gs, 0, none⟩) q.sh.length c) v9 (w.setCell ⟨gs, k * 3 + 2, none⟩ (.int .i64 u)) := by
  subst hu
  have hk : Kp (One gs) w (w.setCell ⟨gs, k * 3 + 2, none⟩ (.int .i64 (x - K))) := kp_setOne _ _ _ _
  have hS : ∀ g, One gs g → Value.ownBlock (.slice (some ⟨gs, 0, none⟩) q.sh.length c) = some g := fun g e => by have e : g = gs := e; subst e; rfl
  refine ⟨kp_own h.kp hb h.sh hk hS, ?_, hk.owns h.tp fun g hg s => own_apart h.sh h.tp (by decide) (hS g s) hg, hk.owns h.out fun g hg s => own_apart h.sh h.out (by decide) (hS g s) hg, hk.owns h.ord fun g hg s => own_apart h.sh h.ord (by decide) (hS g s) hg⟩
  have := own_set h.sh (k * 3 + 2) (.int .i64 (x - K))
  rw [flat_set (shC_len K) q.sh k s { s with x := x } 2 _ hs (by decide) rfl] at this
  simpa using this
theorem QRo.setOut (h : QRo w1 base go n v10 ord K q v8 v9 w) (hb : w1.heap.size ≤ base) {i : Nat} {s : Spo} (hs : q.out[i]? = some s) (t : Spo) :
    QRo w1 base go n v10 ord K { q with out := q.out.set i t } v8 v9 ((((w.setCell ⟨go, i * 4, none⟩ (.int .i64 t.p)).setCell ⟨go, i * 4 + 1, none⟩ (.int .i64 t.s)).setCell ⟨go, i * 4 + 2, none⟩ (.int .i64 t.x)).setCell ⟨go, i * 4 + 3, none⟩ (.int .i64 t.y)) := by
  have hk : Kp (One go) w ((((w.setCell ⟨go, i * 4, none⟩ (.int .i64 t.p)).setCell ⟨go, i * 4 + 1, none⟩ (.int .i64 t.s)).setCell ⟨go, i * 4 + 2, none⟩ (.int .i64 t.x)).setCell ⟨go, i * 4 + 3, none⟩ (.int .i64 t.y)) := (((kp_setOne _ _ _ _).tr (kp_setOne _ _ _ _)).tr (kp_setOne _ _ _ _)).tr (kp_setOne _ _ _ _)
  have hS : ∀ g, One go g → Value.ownBlock (.slice (some ⟨go, 0, none⟩) n n) = some g := fun g e => by have e : g = go := e; subst e; rfl
  exact ⟨kp_own h.kp hb h.out hk hS, hk.owns h.sh fun g hg s => own_apart h.out h.sh (by decide) (hS g s) hg, hk.owns h.tp fun g hg s => own_apart h.out h.tp (by decide) (hS g s) hg, own_put4 h.out hs t, hk.owns h.ord fun g hg s => own_apart h.out h.ord (by decide) (hS g s) hg⟩
end
/-- A shelf's number is its place. -/
def IdxS (q : Qs) : Prop := ∀ (j : Nat) (s : Spo), q.sh[j]? = some s → s.s = ((j : Nat) : Int)
theorem IdxS.new {P : Pt} {c : Ct} {q : Qs} (h : IdxS q) : IdxS (qNew P c q) := fun j s hj => by
  simp only [qNew] at hj
  rw [List.getElem?_append] at hj
  split at hj
  · exact h j s hj
  · rename_i hn
    obtain ⟨hl, he⟩ := List.getElem?_eq_some_iff.1 hj
    simp at hl
    have e : j = q.sh.length := by omega
    subst e
    simp at he
    rw [← he]
theorem IdxS.put {P : Pt} {c : Ct} {i k : Nat} {q : Qs} {s : Spo} (h : IdxS q) (hs : q.sh[k]? = some s) : IdxS (qPut P c i k q) := fun j t hj => by
  have e : q.sh.getD k default = s := getD_of hs
  simp only [qPut, e] at hj
  rw [List.getElem?_set] at hj
  split at hj
  · rename_i hk
    split at hj
    · cases hj
      rw [← hk]
      exact h k s hs
    · cases hj
  · exact h j t hj
theorem tpC_at {K : Int} {tp : List Int} {k : Nat} {y : Int} (h : tp[k]? = some y) : (tp.map (tpC K))[k]? = some (.int .i64 (y - K)) := by
  rw [List.getElem?_map, h]
  rfl
theorem infoSh : (Try.prog.info? 84).map (fun i => (i.zero, i.size, i.bytes)) = some (some (.agg #[.int .i64 0, .int .i64 0, .int .i64 0]), 3, 24) := by kernel_rfl
def quiE (P : Pt) (l : List Ct) : Int := if jchk P l 200 = 0 then fitV P l else jchk P l 200
def quiL (P : Pt) (l : List Ct) : List Spo := if quiE P l = 0 then quickF P l else []
theorem any_step {α : Type} {p : α → Bool} {l : List α} {k : Nat} {v : α} (h : (l.take k).any p = false) (hv : l[k]? = some v) (hp : p v = false) : (l.take (k + 1)).any p = false := by
  rw [List.take_add_one, hv, List.any_append, h]
  simp [hp]
end Go.Proofs.Ytamjhpdgclbfgaa

namespace Go.Proofs.Ytamjhpdgclbfgaa
open Go.RowKit Go.Kq

theorem map_snoc (T : List Nat) (g : Nat) : T.map natI ++ [natI g] = ((T ++ [g]).map Int.ofNat).map (Value.int .i64) := by
  simp [natI]
theorem natl_news {w : World} {A : Option Addr} {n : Nat} {S : List Nat} (h : RdI .i64 w A n (S.map Int.ofNat)) : ∀ ad, A = some ad → ∀ j u, (S.map natI)[j]? = some u → w.cell? (ad.add j) = some u := fun ad had j u hu => by
  rw [List.getElem?_map] at hu
  cases hS : S[j]? with
  | none => rw [hS] at hu; cases hu
  | some x =>
    rw [hS] at hu
    cases hu
    obtain ⟨b, o, hA, _, hc⟩ := h.2 j _ (nat_at hS)
    rw [had] at hA
    cases hA
    rw [add_at]
    exact hc
set_option maxHeartbeats 8000000 in
set_option maxRecDepth 100000 in
theorem groups_any (n : Nat) (w : World) (hn : n ≤ 7) :
    Calls Try.prog 31 #[.int .i64 (n : Nat)] w fun e w' => ∃ A m c, e = .returned (.slice A m c) ∧ RdL w.heap.size w' A m (grpR n) ∧ Kp No w w' := by
  obtain ⟨i1, hi1, hz11, hz12, hz13⟩ := info_parts infoIn
  obtain ⟨i2, hi2, hz21, hz22, hz23⟩ := info_parts infoSl
  have hc0 : (w.alloc (.cells #[.slice none 0 0] 57)).cell? ⟨w.heap.size, 0, none⟩ = some (.slice none 0 0) := by go_simp
  have hR0 : RdL w.heap.size (w.alloc (.cells #[.slice none 0 0] 57)) (some ⟨w.heap.size, 0, none⟩) 1 (grpR 0) := ⟨rfl, fun i S hS => by
    match i, hS with
    | 0, hS =>
      simp [grpR] at hS
      subst hS
      exact ⟨w.heap.size, 0, none, 0, 0, rfl, ⟨Nat.le_refl _, by simp⟩, hc0, fun _ => ⟨rfl, rfl⟩, RdI.nil _ _, fun b o e => by cases e⟩
    | i + 1, hS => simp [grpR] at hS⟩
  have R0 := Lib.hid hR0
  have K0 := Lib.hid (Kp.alloc No w (.cells #[.slice none 0 0] 57))
  clear hR0 hc0
  go_enter Try.func31, Try.ntmps31
  go_wp2_with fail
  generalize w.alloc (.cells #[.slice none 0 0] 57) = w0 at *
  go_loopw [3, 4] (fun v s wr => ∃ (i : Nat) (A : Option Addr) (c : Nat), i ≤ n ∧ s = .int .i64 i ∧ v = .slice A (grpR i).length c ∧ RdL w.heap.size wr A (grpR i).length (grpR i) ∧ Kp No w0 wr) (fun _ s _ => n - (intOf s).toNat)
  case atStart => exact ⟨0, _, _, by omega, rfl, rfl, R0.out, Kp.refl _ _⟩
  case round =>
    obtain ⟨i, A, c, hi, rfl, rfl, hrd, hkp⟩ := hrel
    obtain ⟨wo, rfl⟩ : ∃ wo : World, wo = wr := ⟨_, rfl⟩
    have HRD := Lib.hid hrd
    have HKP := Lib.hid hkp
    clear hrd hkp
    by_cases hlt : i < n
    · have hlt' : (i : Int) < n := by omega
      have hLL := grpR_len i (by omega)
      have hL8 : (grpR i).length ≤ 2097152 := Nat.le_trans hLL (Nat.pow_le_pow_right (by omega) (show i ≤ 7 by omega))
      have HM := Lib.hid (grpR_mem i)
      obtain ⟨L, hL⟩ : ∃ L, grpR i = L := ⟨_, rfl⟩
      have HS := Lib.hid (show grpR (i + 1) = nxt L by rw [← hL]; rfl)
      rw [hL] at HRD HM hL8 ⊢
      clear hLL hL
      go_wp2_with fail
      go_loopw [5, 6] (fun v s wr => ∃ k : Nat, k ≤ L.length ∧ s = .int .i64 k ∧ RowL wo.heap.size wr v (nxt (L.take k)) ∧ Kp No wo wr) (fun _ s _ => L.length - (intOf s).toNat)
      case atStart => exact ⟨0, by omega, rfl, RowL.nil _ _, Kp.refl _ _⟩
      case round =>
        obtain ⟨k, hk, rfl, hR, hkp⟩ := hrel
        have HR := Lib.hid hR
        have KP := Lib.hid hkp
        clear hR hkp
        by_cases hkl : k < L.length
        · obtain ⟨T, hT⟩ : ∃ T, L[k]? = some T := ⟨_, List.getElem?_eq_getElem hkl⟩
          have hkl' : (k : Int) < L.length := by omega
          obtain ⟨b, o, A', n', c', rfl, hbs, hcc, hnn, hri, hbA⟩ := HRD.out.2 k T hT
          obtain ⟨hTi, hTc⟩ := HM.out T (List.mem_of_getElem? hT)
          have hTn : T.length = n' := nat_len hri
          have HNS := Lib.hid (nxt_snoc hT)
          have hNL : (nxt (L.take k)).length ≤ 16777216 := by
            have h1 := nxt_len (i := 7) (M := L.take k) fun U hU => by have := (HM.out U (List.mem_of_mem_take hU)).2; omega
            have h2 : (L.take k).length ≤ L.length := by rw [List.length_take]; omega
            omega
          obtain ⟨NX, hNX⟩ : ∃ NX, nxt (L.take k) = NX := ⟨_, rfl⟩
          rw [hNX] at HR HNS hNL
          have HCC := Lib.hid hcc
          have HRI := Lib.hid hri
          have HNN := Lib.hid hnn
          clear hNX hcc hri hnn hbA hT HM HRD
          go_wp2_with fail
          go_loopw [5, 7] (fun v s wr => ∃ g : Nat, g ≤ cntF T + 1 ∧ s = .int .i64 g ∧ RowL wo.heap.size wr v (NX ++ (List.range g).map fun g => T ++ [g]) ∧ Kp No wo wr) (fun _ s _ => cntF T + 1 - (intOf s).toNat)
          case atStart => exact ⟨0, by omega, rfl, by simpa using HR.out, KP.out⟩
          case round =>
            obtain ⟨g, hg, rfl, hR2, hkp2⟩ := hrel
            clear HR KP
            have HR := Lib.hid hR2
            have KP := Lib.hid hkp2
            have cO := hkp2.cell HCC.out id
            obtain ⟨av, cv, rfl⟩ := hR2.form
            have hCO := Lib.hid (count_any A' n' c' T wr (HRI.out.no hkp2) (by omega) (fun s hs => by have := cntF_lt s hs; omega))
            clear hR2 hkp2
            have hml : (NX ++ (List.range g).map fun g => T ++ [g]).length ≤ 16777300 := by simp; omega
            obtain ⟨m, hm⟩ : ∃ m, (NX ++ (List.range g).map fun g => T ++ [g]).length = m := ⟨_, rfl⟩
            rw [hm] at hml ⊢
            go_wp2_with fail
            with_reducible refine hCO.out.mono ?_
            rintro e w1 ⟨rfl, hw1⟩
            subst hw1
            clear hCO
            by_cases hgc : g ≤ cntF T
            · have hgc' : (g : Int) ≤ (cntF T : Int) := by omega
              have hgs : IntKind.i64.wrap ((g : Int) + 1) = (g : Int) + 1 := by rw [IntKind.wrap_i64]; omega
              have he := own_empty (w := w1) (base := w1.heap.size) (e := 3) (size := 1) (Nat.le_refl _)
              obtain ⟨w2, hw2⟩ : ∃ w2, w1.alloc (.cells #[] 3) = w2 := ⟨_, rfl⟩
              have k2 : Kp No w1 w2 := by rw [← hw2]; exact Kp.alloc _ _ _
              have cO2 := k2.cell cO id
              rw [hw2] at he
              have HE := Lib.hid he
              have K2 := Lib.hid k2
              clear he k2 cO
              go_wp2_with (at_builtin; refine stop_in ?_)
              refine stop_out ?_
              clear hw2
              refine wpL_append_any rfl _ _ 57 rfl w1.heap.size 3 i1 (.int .i64 0) 1 8 Try.underlying57 hi1 hz11 hz12 hz13 rfl (by decide) (.slice (some ⟨w1.heap.size, 0, none⟩) 0 0) 0 [] rfl HE.out A' n' c' (T.map natI) rfl (by simp [hTn]) HNN.out (natl_news ((HRI.out.no KP.out).no K2.out)) (fun u hu => by obtain ⟨x, _, rfl⟩ := List.mem_map.1 hu; rfl) (by unfold maxLen; omega) (by omega) K2.out.size ?_
              intro v6 w6 hown6 hgrow6 _
              have K6 := Lib.hid (kp_app0 K2.out HE.out (Nat.le_refl _) hgrow6)
              rw [Nat.zero_add, List.nil_append] at hown6
              obtain ⟨a6, c6, rfl, _⟩ := own_form hown6
              have OW6 := Lib.hid hown6
              clear hown6 hgrow6 cO2 HE K2
              go_wp2_with (at_builtin; refine stop_in ?_)
              refine stop_out ?_
              refine wpL_append_any rfl _ _ 57 rfl w1.heap.size 3 i1 (.int .i64 0) 1 8 Try.underlying57 hi1 hz11 hz12 hz13 rfl (by decide) (.slice a6 n' c6) n' (T.map natI) rfl (OW6.out.alloc _) (some ⟨w6.heap.size, 0, none⟩) 1 1 [natI g] rfl rfl (fun h => by cases h) (fun ad had j u hu => by cases had; exact new_cells w6 [natI g] (by unfold maxLen; simp) j u hu) (fun u hu => by simp at hu; subst hu; rfl) (by unfold maxLen; omega) (by omega) (by have := K6.out.size; simp; omega) ?_
              intro v9 w9 hown9 hgrow9 _
              have K9 := Lib.hid (kp_app K6.out OW6.out (Nat.le_refl _) hgrow9)
              obtain ⟨a9, c9, rfl, _, _, hf9⟩ := own_form hown9
              obtain ⟨g9, rfl⟩ := hf9 (by omega)
              have OW9 := Lib.hid hown9
              have HNB := Lib.hid (show ∀ b, (Value.slice av m cv).ownBlock = some b → b < w1.heap.size from fun b hb => by
                obtain ⟨us, _, h2, _⟩ := HR.out
                rw [hm] at h2
                exact (own_ge h2 hb).2)
              obtain ⟨us, hu1, hu2, hu3⟩ := HR.out.no K9.out
              rw [hm] at hu1 hu2 hu3
              have HU := Lib.hid (And.intro hu1 (And.intro hu2 hu3))
              clear hown9 hgrow9 OW6 hu1 hu2 hu3 hf9
              go_wp2_with (at_builtin; refine stop_in ?_)
              refine stop_out ?_
              refine wpL_append_any rfl _ _ 66 rfl wo.heap.size 57 i2 (.slice none 0 0) 1 24 Try.underlying66 hi2 hz21 hz22 hz23 rfl (by decide) (.slice av m cv) m us rfl (HU.out.2.1.alloc _) (some ⟨w9.heap.size, 0, none⟩) 1 1 [.slice (some ⟨g9, 0, none⟩) (n' + 1) c9] rfl rfl (fun h => by cases h) (fun ad had j u hu => by cases had; exact new_cells w9 [.slice (some ⟨g9, 0, none⟩) (n' + 1) c9] (by unfold maxLen; simp) j u hu) (fun u hu => by simp at hu; subst hu; rfl) (by unfold maxLen; omega) (by omega) (by have := KP.out.size; have := K9.out.size; simp; omega) ?_
              intro v' w5 hown hgrow hat
              have hrow := OW9.out
              rw [map_snoc] at hrow
              have R5 := Lib.hid (RowL.snoc (B := w1.heap.size) KP.out.size hm (fun h => by cases h) ((RdI.of_own hrow).no (Kp.alloc No w9 _)) (fun b o e => by
                cases e
                have := own_ge OW9.out (g := g9) rfl
                exact ⟨this.1, Nat.lt_of_lt_of_le this.2 (Kp.alloc No w9 _).size⟩) HNB.out hgrow hat us (by rw [HU.out.1, hm]) (fun j u S hu hS => (HU.out.2.2 j u S hu hS).no (Kp.alloc No w9 _)) hown)
              have K5 := Lib.hid (kp_app (KP.out.tr K9.out) HU.out.2.1 (Nat.le_refl _) hgrow)
              clear hown hgrow hat hrow OW9 HU K9 K6 HNB
              go_wp2_with fail
              go_roundw
              case rel => exact ⟨g + 1, by omega, by go_num, by rw [List.range_succ, List.map_append, ← List.append_assoc]; exact R5.out, K5.out⟩
              case measure => simp [intOf]; omega
            · obtain rfl : g = cntF T + 1 := by omega
              have hgc' : ((cntF T : Int) + 1 ≤ (cntF T : Int)) = False := eq_false (by omega)
              have hks : IntKind.i64.wrap ((k : Int) + 1) = (k : Int) + 1 := by rw [IntKind.wrap_i64]; omega
              go_wp2_with fail
              go_roundw
              case rel => exact ⟨k + 1, by omega, by go_num, by rw [HNS.out, ← hm]; exact HR.out, KP.out⟩
              case measure => simp [intOf]; omega
        · obtain rfl : k = L.length := by omega
          have hR9 := HR.out
          rw [List.take_of_length_le (Nat.le_refl _), ← HS.out] at hR9
          obtain ⟨av, cv, rfl⟩ := hR9.form
          have HR9 := Lib.hid (hR9.rd.mono (g' := w.heap.size) (by have := K0.out.size; have := HKP.out.size; omega))
          have hi9 : IntKind.i64.wrap ((i : Int) + 1) = (i : Int) + 1 := by rw [IntKind.wrap_i64]; omega
          clear hR9 HR
          go_wp2_with fail
          go_roundw
          case rel => exact ⟨i + 1, av, cv, by omega, by go_num, rfl, HR9.out, HKP.out.tr KP.out⟩
          case measure => simp [intOf]; omega
    · obtain rfl : i = n := by omega
      go_wp2_with fail
      go_ret
      exact ⟨_, _, _, rfl, HRD.out, K0.out.tr HKP.out⟩
end Go.Proofs.Ytamjhpdgclbfgaa
