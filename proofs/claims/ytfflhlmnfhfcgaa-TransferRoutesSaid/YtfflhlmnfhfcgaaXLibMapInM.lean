/- Chapter 33: the divisions of voices: the walk. · The laws on maps at the operations of a walk inside a fence. -/
import Derived.Sort.MapsRangeIn
import Derived.RangeFuncSeq
import Derived.Test.YtfflhlmnfhfcgaaXSrtOM
import Derived.Test.YtfflhlmnfhfcgaaXRtS
import Derived.Test.YtfflhlmnfhfcgaaXLibMap
namespace Go.Proofs.Ytfflhlmnfhfcgaa
open Go.RowKit Go.Kq

theorem divs_int (l : List Vc) : ((divs l).map Int.ofNat).map (Value.int .i64) = (divs l).map natV := by rw [List.map_map]; rfl
theorem divs_sorted {l : List Vc} (hd : ∀ v ∈ l, 0 ≤ v.d ∧ v.d ≤ 5) (D : List Nat) (hD : D = l.map fun v => v.d.toNat) : Lib.compact ((srt D).map fun i : Nat => (i : Int)) = (divs l).map Int.ofNat := by
  refine divs_uniq hd (fun d => ?_) (comp_asc _ ?_)
  · rw [comp_mem, List.mem_map]
    constructor
    · rintro ⟨i, hi, rfl⟩
      have := (srt_perm D).mem_iff.1 hi
      rw [hD, List.mem_map] at this
      obtain ⟨v, hv, rfl⟩ := this
      exact ⟨v, hv, by have := hd v hv; omega⟩
    · rintro ⟨v, hv, rfl⟩
      refine ⟨v.d.toNat, (srt_perm D).mem_iff.2 (by rw [hD]; exact List.mem_map.2 ⟨v, hv, rfl⟩), by have := hd v hv; omega⟩
  · rw [List.pairwise_map]
    exact (srt_sorted D).imp fun {a b} h => by omega
set_option maxHeartbeats 4000000 in
set_option maxRecDepth 100000 in
theorem divisions_any (A : Option Addr) (n ca : Nat) (xs : List Vc) (w : World) (hx : RdV w A n xs) (hn : n ≤ 100) (hd : ∀ v ∈ xs, 0 ≤ v.d ∧ v.d ≤ 5) :
    Calls Try.prog 39 #[.slice A n ca] w fun e w' => ∃ v, e = .returned v ∧ w'.ownsRow w.heap.size 3 1 v (divs xs).length ((divs xs).map natV) ∧ Kp No w w' := by
  obtain ⟨i0, hi0, hz0, hz1, hz2⟩ := info_parts info3
  have hxl := hx.1
  obtain ⟨D, hD⟩ : ∃ D, D = xs.map fun v => v.d.toNat := ⟨_, rfl⟩
  have HC := Lib.hid (divs_sorted hd D hD)
  have HD := Lib.hid hD
  have Hd := Lib.hid hd
  clear hD hd
  have hDl : D.length = n := by rw [HD.out, List.length_map, hxl]
  go_enter Try.func39, Try.ntmps39
  go_wp2_with fail
  go_loopw [3, 8] (fun vo vi wr => ∃ k : Nat, k ≤ n ∧ vi = .int .i64 k ∧ wr.ownsRow w.heap.size 3 1 vo k ((D.take k).map natV) ∧ Kp No w wr) (fun _ vi _ => n - (intOf vi).toNat)
  case atStart => exact ⟨0, by omega, rfl, ⟨rfl, .inl ⟨rfl, rfl⟩⟩, Kp.refl _ _⟩
  case round =>
    obtain ⟨k, hk, rfl, hol, hkp⟩ := hrel
    have HOL := Lib.hid hol
    clear hol
    obtain ⟨al, cl, rfl, _, _, _⟩ := own_form HOL.out
    by_cases hltk : k < n
    · obtain ⟨v, hv⟩ : ∃ v, xs[k]? = some v := ⟨_, List.getElem?_eq_getElem (by omega)⟩
      obtain ⟨b, o, rfl, hb, c0, c1, c2, c3⟩ := (hx.no hkp).2 k v hv
      have hdv := Hd.out v (List.mem_of_getElem? hv)
      have HT := Lib.hid (show D.take (k + 1) = D.take k ++ [v.d.toNat] by rw [List.take_add_one, HD.out, List.getElem?_map, hv]; rfl)
      have HV := Lib.hid (show Value.int .i64 v.d = natV v.d.toNat by unfold natV; rw [Int.toNat_of_nonneg hdv.1])
      have hDl := Lib.hid hDl
      clear hv
      go_wp2_with (at_builtin; refine stop_in ?_)
      obtain ⟨wx, hwx⟩ : ∃ wx, wx = wr.alloc (.cells #[.int .i64 v.d, .int .i64 v.p, .int .i64 v.f, .int .i64 v.q] 38) := ⟨_, rfl⟩
      have hsx : wr.heap.size + 1 = wx.heap.size := by rw [hwx]; simp
      have hkx : Kp No w wx := by rw [hwx]; exact hkp.tr (Kp.alloc _ _ _)
      have HOLX := Lib.hid (show wx.ownsRow w.heap.size 3 1 (.slice al k cl) k ((D.take k).map natV) by rw [hwx]; exact HOL.out.alloc _)
      rw [← hwx, hsx]
      clear HOL hwx hsx c0 c1 c2 c3
      refine stop_out ?_
      refine wpList_append_own_at _ rfl _ _ 23 rfl w.heap.size 3 i0 (.int .i64 0) 1 8 Try.underlying23 hi0 hz0 hz1 hz2 rfl (by decide) (.slice al k cl) k ((D.take k).map natV) rfl (HOLX.out.alloc (.cells #[.int .i64 v.d] 3)) ⟨wx.heap.size, 0, none⟩ 1 1 [.int .i64 v.d] rfl rfl (cell_one_new wx _ _) (ints_oneCell .i64 [v.d]) (by unfold maxLen; omega) (by omega) (by have := hkx.size; simp; omega) ?_
      intro v' w7 hown' hgrow hnil hat
      have hk7 : Kp No w w7 := hkx.trans ((Kp.alloc (fun g => w.heap.size ≤ g) _ _).tr (Kp.grown hgrow fun g hg _ => (own_ge HOLX.out hg).1)) (fun g hg h => absurd h (Nat.not_le.2 hg))
      have HOL7 := Lib.hid hown'
      clear hown' hgrow hnil hat
      go_wp2_with fail
      go_roundw
      case rel => exact ⟨k + 1, by omega, by go_num, by rw [HT.out, List.map_append]; have := HOL7.out; rw [HV.out] at this; exact this, hk7⟩
      case measure => simp [intOf]; omega
    · obtain rfl : k = n := by omega
      have ho : wr.ownsRow w.heap.size 3 1 (.slice al k cl) k (D.map natV) := by
        have := HOL.out
        rwa [List.take_of_length_le (by omega)] at this
      have HO := Lib.hid ho
      clear ho HOL
      go_wp2_with fail
      refine (sort_any al k w.heap.size cl D wr (by omega) HO.out).mono ?_
      rintro e w1 ⟨rfl, ho1, hk1⟩
      rw [← natV_int] at ho1
      have HO1 := Lib.hid ho1
      have HK1 := Lib.hid (hkp.trans hk1 (fun g hg h => absurd (own_ge HO.out h).1 (Nat.not_le.2 hg)))
      clear ho1 hk1
      go_wp2_with fail
      refine (comp_any al k w.heap.size cl _ w1 (by omega) HO1.out).mono ?_
      rw [HC.out, List.length_map, divs_int]
      rintro e w2 ⟨rfl, ho2, hk2⟩
      have HO2 := Lib.hid ho2
      have HK2 := Lib.hid (HK1.out.trans hk2 (fun g hg h => absurd (own_ge HO1.out h).1 (Nat.not_le.2 hg)))
      clear ho2 hk2
      go_wp2_with fail
      go_ret
      exact ⟨_, rfl, HO2.out, HK2.out⟩
end Go.Proofs.Ytfflhlmnfhfcgaa

namespace Go.Kq
open Go.RowKit
section
variable {κ ν : Type} {ek : κ → Value} {ev : ν → Value}
variable {F : Fence} {n : Nat} {P : Program} (w : World) {ops : Array Oper} {rest : List Oper} {o : Oper} {a : Act} {Q : Exit → Act → World → Prop} {b : Nat} {E : List (κ × ν)}

theorem wpLIn_range (hg : o.guard = none) (m : Operand) (t : TypeId) (hop : o.op = Op.range t m) {kt e : TypeId} (ht : P.underlying t = some (.map kt e)) (hmap : MapAt w b ek ev E) (hm : a.eval m = .map (some b))
    (hK : ∀ w', RangeAt w' b w.heap.size ek ev E [] → w.grownBy w' none → w'.heap.size = w.heap.size + 1 → wpListIn F n P ops Q rest (a.put o.dst (.pointer (some ⟨w.heap.size, 0, none⟩))) w') : wpListIn F n P ops Q (o :: rest) a w := by
  refine wpListIn_plain hg fun K' hK' => ?_
  obtain ⟨w', hrun, h1, h2, h3⟩ := hmap.run_range (P := P) ht
  unfold Oper.wpIn
  refine ⟨?_, ?_⟩
  · simp [Oper.about, hop]
  · rw [Oper.semAt_plain F _ _ (by rw [hop]; intro c hc'; cases hc')]
    simp [execOp, hop, hm, hrun, Result.andThen]
    exact hK' _ _ (hK w' h1 h2 h3)

theorem wpLIn_next (hg : o.guard = none) (it : Operand) (hop : o.op = Op.next it false) {kt : TypeId} (L : KeyOk P kt ek) {r : Nat} {S : List κ} (h : RangeAt w b r ek ev E S) (hit : a.eval it = .pointer (some ⟨r, 0, none⟩))
    (hDone : (∀ k ∈ keys E, k ∈ S) → wpListIn F n P ops Q rest (a.put o.dst (.tuple #[.bool false])) w)
    (hMore : ∀ k v w', (k, v) ∈ E → k ∉ S → RangeAt w' b r ek ev E (k :: S) → w.grownBy w' (some r) → w'.heap.size = w.heap.size → (Instr.entry (.pointer (some ⟨r, 0, none⟩))).run P w' = .ok (.tuple #[ek k, ev v]) w' →
      wpListIn F n P ops Q rest (a.put o.dst (.tuple #[.bool true, ek k, ev v])) w') : wpListIn F n P ops Q (o :: rest) a w := by
  refine wpListIn_plain hg fun K' hK' => ?_
  unfold Oper.wpIn
  refine ⟨by simp [Oper.about, hop], ?_⟩
  rw [Oper.semAt_plain F _ _ (by rw [hop]; intro c hc'; cases hc')]
  rcases h.run_next (P := P) L o.type with ⟨h1, hrun⟩ | ⟨k, v, w', h1, h2, hrun, h3, h4, h5, h6⟩
  · simp [execOp, hop, hit, hrun, Result.andThen]
    exact hK' _ _ (hDone h1)
  · simp [execOp, hop, hit, hrun, Result.andThen]
    exact hK' _ _ (hMore k v w' h1 h2 h3 h4 h5 h6)

/-- A range lies as it lay where the map's and the iterator's blocks do. -/
theorem RangeAt.of_walks {w w' : World} {r : Nat} {S : List κ} (h : RangeAt w b r ek ev E S) (hk : KeepsWalks w w') : RangeAt w' b r ek ev E S := by
  obtain ⟨es, clock, since, seen, c0, hm, hr, rest⟩ := h
  exact ⟨es, clock, since, seen, c0, ⟨hk.same _ _ hm.at_ rfl, hm.list, hm.stamped⟩, hk.same _ _ hr rfl, rest⟩
theorem RangeAt.iter_walk {w : World} {r : Nat} {S : List κ} (h : RangeAt w b r ek ev E S) : ∃ o : Obj, w.heap[r]? = some o ∧ o.isWalk = true := by
  obtain ⟨es, clock, since, seen, c0, hm, hr, rest⟩ := h
  exact ⟨_, hr, rfl⟩
end
end Go.Kq
