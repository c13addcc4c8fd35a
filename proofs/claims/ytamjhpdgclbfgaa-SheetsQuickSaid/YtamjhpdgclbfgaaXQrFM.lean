/- An exchange of two elements of a row of one cell each (x[i], x[j] = x[j], x[i]), which may be the same, in a region that draws its order. No program in sight. · Chapter 09: the sort by the order of cuts: the state of the row. · Chapter 09: the reference's falling: the row of all cuts in order. -/
import Derived.Sort.AssemblyPlain
import Derived.Test.YtamjhpdgclbfgaaXSrtIM
import Derived.Test.YtamjhpdgclbfgaaXSpsM
import Derived.Test.YtamjhpdgclbfgaaXSsQM
import Derived.Test.YtamjhpdgclbfgaaXRfAM
import Derived.Test.YtamjhpdgclbfgaaXLibYetM
import Derived.Test.YtamjhpdgclbfgaaXLibHxM
import Derived.Test.YtamjhpdgclbfgaaXNtBM
namespace Go.Kq
open Go.RowKit

/-- The row behind some of the two stores. -/
def curS (xs : List Value) (i j : Nat) (vi vj : Value) (a b : Bool) : List Value :=
  if i = j then xs else (if b then (if a then xs.set i vj else xs).set j vi else (if a then xs.set i vj else xs))
theorem curS_len (xs : List Value) (i j : Nat) (vi vj : Value) (a b : Bool) : (curS xs i j vi vj a b).length = xs.length := by
  unfold curS
  split
  · rfl
  · cases a <;> cases b <;> simp
/-- Operation la loads element j (vj), lb element i (vi); sa stores vj into i, sb stores vi into j. -/
structure Sx (w0 : World) (g base : Nat) (e : TypeId) (n c : Nat) (xs : List Value) (i j : Nat) (vi vj : Value) (la lb sa sb : Nat) (r : Nat → Option Value) (w : World) : Prop where
  hi : xs[i]? = some vi
  hj : xs[j]? = some vj
  kp : Kp (One g) w0 w
  row : w.ownsRow base e 1 (.slice (some ⟨g, 0, none⟩) n c) n (curS xs i j vi vj (r sa).isSome (r sb).isSome)
  da : r sa ≠ none → r lb ≠ none
  db : r sb ≠ none → r la ≠ none
section
variable {w0 w w' : World} {g base : Nat} {e : TypeId} {n c : Nat} {xs : List Value} {i j : Nat} {vi vj : Value} {la lb sa sb : Nat} {r : Nat → Option Value}
theorem Sx.start (h : w0.ownsRow base e 1 (.slice (some ⟨g, 0, none⟩) n c) n xs) (hi : xs[i]? = some vi) (hj : xs[j]? = some vj) : Sx w0 g base e n c xs i j vi vj la lb sa sb (fun _ => none) w0.drew :=
  ⟨hi, hj, Kp.drew _ _, by
    have : curS xs i j vi vj false false = xs := by unfold curS; split <;> rfl
    show w0.drew.ownsRow base e 1 _ n (curS xs i j vi vj false false)
    rw [this]
    exact (Kp.drew No w0).owns h fun _ _ h => h, fun h => absurd rfl h, fun h => absurd rfl h⟩
theorem Sx.upd (h : Sx w0 g base e n c xs i j vi vj la lb sa sb r w) (k : Nat) (v : Value) (h1 : k ≠ sa) (h2 : k ≠ sb) : Sx w0 g base e n c xs i j vi vj la lb sa sb (Kq.upd r k v) w := by
  have e1 := upd_ne r v h1.symm
  have e2 := upd_ne r v h2.symm
  have some_ : ∀ q, r q ≠ none → Kq.upd r k v q ≠ none := fun q hq => by
    by_cases hk : q = k
    · rw [hk, upd_same]
      simp
    · rw [upd_ne _ _ hk]
      exact hq
  exact ⟨h.hi, h.hj, h.kp, by rw [e1, e2]; exact h.row, fun x => some_ _ (h.da (e1 ▸ x)), fun x => some_ _ (h.db (e2 ▸ x))⟩
theorem isSome_none {α : Type} {o : Option α} (h : o = none) : o.isSome = false := by rw [h]; rfl
theorem Sx.loadj (h : Sx w0 g base e n c xs i j vi vj la lb sa sb r w) (hr : r la = none) : w.cell? ⟨g, j, none⟩ = some vj := by
  have hb : r sb = none := by
    cases hs : r sb with
    | none => rfl
    | some u => exact absurd hr (h.db (by rw [hs]; simp))
  have hrow := h.row
  rw [hb] at hrow
  refine own_cell hrow ?_
  unfold curS
  by_cases hne : i = j
  · rw [if_pos hne]
    exact h.hj
  · rw [if_neg hne]
    cases (r sa).isSome
    · exact h.hj
    · show (xs.set i vj)[j]? = some vj
      rw [List.getElem?_set_ne hne, h.hj]
theorem Sx.loadi (h : Sx w0 g base e n c xs i j vi vj la lb sa sb r w) (hr : r lb = none) : w.cell? ⟨g, i, none⟩ = some vi := by
  have ha : r sa = none := by
    cases hs : r sa with
    | none => rfl
    | some u => exact absurd hr (h.da (by rw [hs]; simp))
  have hrow := h.row
  rw [ha] at hrow
  refine own_cell hrow ?_
  unfold curS
  by_cases hne : i = j
  · rw [if_pos hne]
    exact h.hi
  · rw [if_neg hne]
    cases (r sb).isSome
    · exact h.hi
    · show (xs.set j vi)[i]? = some vi
      rw [List.getElem?_set_ne (fun e => hne e.symm), h.hi]
theorem set_self_ {xs : List Value} {i : Nat} {v : Value} (h : xs[i]? = some v) : xs.set i v = xs := by
  refine List.ext_getElem? fun j => ?_
  by_cases e : i = j
  · subst e
    rw [List.getElem?_set_self (List.getElem?_eq_some_iff.1 h).1, h]
  · rw [List.getElem?_set_ne e]
theorem Sx.same (h : Sx w0 g base e n c xs i j vi vj la lb sa sb r w) (hij : i = j) : vi = vj := by
  have h1 := h.hi
  rw [hij, h.hj] at h1
  exact (Option.some.inj h1).symm
theorem Sx.sta (h : Sx w0 g base e n c xs i j vi vj la lb sa sb r w) (hr : r sa = none) (hl : r lb ≠ none) (hne : sa ≠ sb ∧ sa ≠ lb ∧ sa ≠ la) (x : Value) : Sx w0 g base e n c xs i j vi vj la lb sa sb (Kq.upd r sa x) (w.setCell ⟨g, i, none⟩ vj) := by
  have e2 := upd_ne r x hne.1.symm
  have e3 := upd_ne r x hne.2.1.symm
  have e4 := upd_ne r x hne.2.2.symm
  have hrow := own_set h.row i vj
  refine ⟨h.hi, h.hj, h.kp.tr (kp_setOne _ _ _ _), ?_, fun _ => by rw [e3]; exact hl, fun y => by rw [e4]; exact h.db (e2 ▸ y)⟩
  rw [upd_same, e2]
  rw [hr] at hrow
  by_cases hij : i = j
  · have hs := h.same hij
    unfold curS at hrow ⊢
    rw [if_pos hij] at hrow ⊢
    rw [← hs, set_self_ h.hi] at hrow
    rw [← hs]
    exact hrow
  · unfold curS at hrow ⊢
    rw [if_neg hij] at hrow ⊢
    cases hs : (r sb).isSome with
    | false => rw [hs] at hrow; exact hrow
    | true =>
      rw [hs] at hrow
      replace hrow : (w.setCell ⟨g, i, none⟩ vj).ownsRow base e 1 (.slice (some ⟨g, 0, none⟩) n c) n ((xs.set j vi).set i vj) := hrow
      show (w.setCell ⟨g, i, none⟩ vj).ownsRow base e 1 (.slice (some ⟨g, 0, none⟩) n c) n ((xs.set i vj).set j vi)
      rw [List.set_comm _ _ hij]
      exact hrow
theorem Sx.stb (h : Sx w0 g base e n c xs i j vi vj la lb sa sb r w) (hr : r sb = none) (hl : r la ≠ none) (hne : sb ≠ sa ∧ sb ≠ lb ∧ sb ≠ la) (x : Value) : Sx w0 g base e n c xs i j vi vj la lb sa sb (Kq.upd r sb x) (w.setCell ⟨g, j, none⟩ vi) := by
  have e2 := upd_ne r x hne.1.symm
  have e3 := upd_ne r x hne.2.1.symm
  have e4 := upd_ne r x hne.2.2.symm
  have hrow := own_set h.row j vi
  refine ⟨h.hi, h.hj, h.kp.tr (kp_setOne _ _ _ _), ?_, fun y => by rw [e3]; exact h.da (e2 ▸ y), fun _ => by rw [e4]; exact hl⟩
  rw [upd_same, e2]
  rw [hr] at hrow
  by_cases hij : i = j
  · have hs := h.same hij
    unfold curS at hrow ⊢
    rw [if_pos hij] at hrow ⊢
    rw [hs, set_self_ h.hj] at hrow
    rw [hs]
    exact hrow
  · unfold curS at hrow ⊢
    rw [if_neg hij] at hrow ⊢
    exact hrow
theorem Sx.fin (h : Sx w0 g base e n c xs i j vi vj la lb sa sb r w) (h1 : r sa ≠ none) (h2 : r sb ≠ none) : w.ownsRow base e 1 (.slice (some ⟨g, 0, none⟩) n c) n ((xs.set i vj).set j vi) := by
  obtain ⟨z1, hz1⟩ := Option.ne_none_iff_exists'.1 h1
  obtain ⟨z2, hz2⟩ := Option.ne_none_iff_exists'.1 h2
  have hrow := h.row
  rw [hz1, hz2] at hrow
  unfold curS at hrow
  by_cases hij : i = j
  · have hs := h.same hij
    rw [if_pos hij] at hrow
    rw [hs, ← hij, show vj = vi from hs.symm, set_self_ h.hi, set_self_ h.hi]
    exact hrow
  · rw [if_neg hij] at hrow
    exact hrow
theorem Sx.free (h : Sx w0 g base e n c xs i j vi vj la lb sa sb r w) (k : Nat) : w.frozen? ⟨g, k, none⟩ = false := own_free h.row k
theorem Sx.old (h : Sx w0 g base e n c xs i j vi vj la lb sa sb r w) {k : Nat} (hk : k < n) (hl : xs.length = n) : ∃ old, w.cell? ⟨g, k, none⟩ = some old := ⟨_, own_cell h.row (List.getElem?_eq_getElem (by rw [curS_len, hl]; exact hk))⟩
end
end Go.Kq

namespace Go.Proofs.Ytamjhpdgclbfgaa
open Go.RowKit Go.Kq Go.Sort

structure Srt (base g m cap n : Nat) (w : World) (d : Array Nat) (W : World) : Prop where
  row : W.ownsRow base 3 1 (.slice (some ⟨g, 0, none⟩) m cap) m (d.toList.map natI)
  lt : ∀ i, i < m → d[i]! < n
  k : Kp (One g) w W
section
variable {base g m cap n : Nat} {w W W' : World} {d : Array Nat} {i j x y : Nat}
theorem Srt.sz (h : Srt base g m cap n w d W) : d.size = m := by
  have := h.row.1
  simpa using this
theorem Srt.at_ (h : Srt base g m cap n w d W) (hi : i < m) (hx : d[i]! = x) : (d.toList.map natI)[i]? = some (.int .i64 (x : Nat)) := by
  have hs := h.sz
  rw [List.getElem?_map, Array.getElem?_toList, Array.getElem?_eq_getElem (by omega)]
  rw [getElem!_pos d i (by omega)] at hx
  rw [hx]
  rfl
theorem Srt.c (h : Srt base g m cap n w d W) (hi : i < m) (hx : d[i]! = x) : W.cell? ⟨g, i, none⟩ = some (.int .i64 (x : Nat)) := own_cell h.row (h.at_ hi hx)
theorem Srt.blk (h : Srt base g m cap n w d W) : base ≤ g ∧ g < W.heap.size := own_ge h.row rfl
theorem Srt.cg (h : Srt base g m cap n w d W) (hi : i < m) (hx : d[i]! = x) (N : Nat) (os : Array Obj) : (grow (W.drewN N) os).cell? ⟨g, i, none⟩ = some (.int .i64 (x : Nat)) := cell_grown h.blk.2 (h.c hi hx) N os
theorem Srt.grown (h : Srt base g m cap n w d W) (hg : ∃ q os, W' = grow (W.drewN q) os) : Srt base g m cap n w d W' := by
  have hk := kp_of_grow hg
  exact ⟨hk.owns h.row fun _ _ h => h, h.lt, h.k.no hk⟩
theorem Srt.no (h : Srt base g m cap n w d W) (hk : Kp No W W') : Srt base g m cap n w d W' := ⟨hk.owns h.row fun _ _ h => h, h.lt, h.k.no hk⟩
theorem swp_row (d : Array Nat) {i j x y : Nat} (hx : d[i]! = x) (hy : d[j]! = y) : ((d.toList.map natI).set i (.int .i64 (y : Nat))).set j (.int .i64 (x : Nat)) = (swp d i j).toList.map natI := by
  unfold swp
  rw [Array.toList_setIfInBounds, Array.toList_setIfInBounds, List.map_set, List.map_set, hx, hy]
  rfl
theorem Srt.swp (h : Srt base g m cap n w d W) (hi : i < m) (hj : j < m) (hx : d[i]! = x) (hy : d[j]! = y) (ho : W'.ownsRow base 3 1 (.slice (some ⟨g, 0, none⟩) m cap) m (((d.toList.map natI).set i (.int .i64 (y : Nat))).set j (.int .i64 (x : Nat)))) (hk : Kp (One g) W W') : Srt base g m cap n w (swp d i j) W' := by
  have hs := h.sz
  refine ⟨by rw [← swp_row d hx hy]; exact ho, fun k hk' => ?_, h.k.tr hk⟩
  rw [swp_get d (by omega) (by omega)]
  split
  · exact h.lt _ hi
  · split
    · exact h.lt _ hj
    · exact h.lt _ hk'
end
/-- What is asked of the order. -/
def CmpB (P : Pt) (A : Option Addr) (n ca : Nat) (l : List Ct) (g : Nat) (w : World) : Prop := ∀ W, Kp (One g) w W → ∀ x y : Nat, x < n → y < n → Calls Try.prog 37 #[.agg #[.int .i64 P.w, .int .i64 P.h, .int .i64 P.k, .slice A n ca], .int .i64 (x : Nat), .int .i64 (y : Nat)] W fun e w' => e = .returned (.int .i64 (befF l x y)) ∧ ∃ q os, w' = grow (W.drewN q) os
theorem cmpB_of (P : Pt) (A : Option Addr) (n ca : Nat) (l : List Ct) (g : Nat) (w : World) (hx : RdC w A n l) (hA : ∀ b o, A = some ⟨b, o, none⟩ → b ≠ g) : CmpB P A n ca l g w := fun W k x y h1 h2 => by
  have hl := hx.1
  obtain ⟨cx, hcx⟩ : ∃ c, l[x]? = some c := ⟨_, List.getElem?_eq_getElem (by omega)⟩
  obtain ⟨cy, hcy⟩ : ∃ c, l[y]? = some c := ⟨_, List.getElem?_eq_getElem (by omega)⟩
  have := before_any P A n ca l x y cx cy W (hx.kp k fun b o e _ s => hA b o e s) hcx hcy
  rw [← befF_at hcx hcy] at this
  exact this
end Go.Proofs.Ytamjhpdgclbfgaa

namespace Go.Proofs.Ytamjhpdgclbfgaa
open Go.RowKit Go.Kq

def ordK (l : List Ct) (k : Nat) : List Nat := (List.range k).foldl (fun o i => insF l i o) []
theorem ordK_succ (l : List Ct) (k : Nat) : ordK l (k + 1) = insF l k (ordK l k) := by
  unfold ordK
  rw [List.range_succ, List.foldl_append]
  rfl
theorem ordK_perm (l : List Ct) (k : Nat) : (ordK l k).Perm (List.range k) := by
  have := (foldr_ins l (List.range k) [] List.Pairwise.nil).1
  rwa [List.append_nil] at this
theorem ordK_len (l : List Ct) (k : Nat) : (ordK l k).length = k := by rw [(ordK_perm l k).length_eq, List.length_range]
theorem ordK_lt (l : List Ct) (k : Nat) : ∀ i ∈ ordK l k, i < k := fun _ hi => List.mem_range.1 ((ordK_perm l k).mem_iff.1 hi)
theorem ins_on {l : List Ct} {i k x : Nat} {O : List Nat} (h : insF l i O = O.take k ++ insF l i (O.drop k)) (hx : O[k]? = some x) (hb : ltB l x i = true) : insF l i O = O.take (k + 1) ++ insF l i (O.drop (k + 1)) := by
  obtain ⟨hk, he⟩ := List.getElem?_eq_some_iff.1 hx
  have e : O.drop k = x :: O.drop (k + 1) := by rw [← he]; exact List.drop_eq_getElem_cons hk
  have h2 : insF l i (x :: O.drop (k + 1)) = x :: insF l i (O.drop (k + 1)) := by
    conv => lhs; unfold insF
    rw [if_pos (of_decide_eq_true hb)]
  rw [h, e, h2, List.take_add_one, hx]
  simp
theorem ins_no {l : List Ct} {i k x : Nat} {O : List Nat} (h : insF l i O = O.take k ++ insF l i (O.drop k)) (hx : O[k]? = some x) (hb : ltB l x i = false) : insF l i O = O.take k ++ i :: O.drop k := by
  obtain ⟨hk, he⟩ := List.getElem?_eq_some_iff.1 hx
  have e : O.drop k = x :: O.drop (k + 1) := by rw [← he]; exact List.drop_eq_getElem_cons hk
  have h2 : insF l i (x :: O.drop (k + 1)) = i :: x :: O.drop (k + 1) := by
    conv => lhs; unfold insF
    rw [if_neg (of_decide_eq_false hb)]
  rw [h, e, h2]
theorem ins_end {l : List Ct} {i k : Nat} {O : List Nat} (h : insF l i O = O.take k ++ insF l i (O.drop k)) (hk : O.length ≤ k) : insF l i O = O.take k ++ i :: O.drop k := by
  rw [h, List.drop_of_length_le hk]
  rfl
theorem infoJ : (Try.prog.info? 3).map (fun i => (i.zero, i.size, i.bytes)) = some (some (.int .i64 0), 1, 8) := by kernel_rfl
set_option maxHeartbeats 8000000 in
set_option maxRecDepth 100000 in
theorem falling_any (A : Option Addr) (n ca : Nat) (l : List Ct) (w : World) (hx : RdC w A n l) (hn : n ≤ 1000) :
    Calls Try.prog 42 #[.slice A n ca] w fun e w' => ∃ v, e = .returned v ∧ w'.ownsRow w.heap.size 3 1 v n ((ordF l).map natI) ∧ Kp No w w' := by
  have mixed : Try.prog.follows .mixedOrders = true := by kernel_rfl
  obtain ⟨i1, hi1, hz11, hz12, hz13⟩ := info_parts infoJ
  have HX := Lib.hid hx
  have HL := Lib.hid hx.1
  clear hx
  go_enter Try.func42, Try.ntmps42
  go_wp2_with fail
  go_loopw [3, 4] (fun v3 v wr => ∃ (i : Nat) (u3 : Value), i ≤ n ∧ v3 = u3 ∧ v = .int .i64 (i : Nat) ∧ wr.ownsRow w.heap.size 3 1 u3 i ((ordK l i).map natI) ∧ Kp No w wr) (fun _ v _ => n - (intOf v).toNat)
  case atStart => exact ⟨0, _, by omega, rfl, rfl, World.ownsRow_nil w w.heap.size 3 1, Kp.refl _ _⟩
  case round =>
    obtain ⟨i, u3, hi, rfl, rfl, ho, hkp⟩ := hrel
    obtain ⟨a3, c3, rfl, hc3, hcm, hf3⟩ := own_form ho
    obtain ⟨O, hO⟩ : ∃ O, ordK l i = O := ⟨_, rfl⟩
    rw [hO] at ho
    have HO := Lib.hid ho
    have HKP := Lib.hid hkp
    have HOE := Lib.hid hO
    have HLO := Lib.hid (show O.length = i by rw [← hO]; exact ordK_len l i)
    have HOT := Lib.hid (show ∀ x ∈ O, x < i by rw [← hO]; exact ordK_lt l i)
    have HF3 := Lib.hid hf3
    clear ho hkp hO hf3
    by_cases hlt : i < n
    · have hlt' : (i : Int) < (n : Nat) := by omega
      obtain ⟨ci, hci⟩ : ∃ c, l[i]? = some c := ⟨_, List.getElem?_eq_getElem (by rw [HL.out]; exact hlt)⟩
      have HCI := Lib.hid hci
      clear hci
      go_upto_block 2 with fail
      go_cut [5] from 7 to 41 (fun vp wx => ∃ k : Nat, k ≤ i ∧ vp = .int .i64 (k : Nat) ∧ insF l i O = O.take k ++ i :: O.drop k ∧ Kp No wr wx)
      case first =>
        go_wp2_with fail
        go_loopw [5] (fun vp wx => ∃ k : Nat, k ≤ i ∧ vp = .int .i64 (k : Nat) ∧ insF l i O = O.take k ++ insF l i (O.drop k) ∧ Kp No wr wx) (fun vp _ => i - (intOf vp).toNat)
        case atStart => exact ⟨0, by omega, rfl, by simp, Kp.refl _ _⟩
        case round =>
          obtain ⟨k, hk, rfl, hin, hkw⟩ := hrel
          have HIN := Lib.hid hin
          have HKW := Lib.hid hkw
          clear hin hkw
          by_cases hki : k < i
          · have hd0 : decide ((k : Int) < (i : Nat)) = true := decide_eq_true (by omega)
            have hki' : (k : Int) < (i : Nat) := by omega
            obtain ⟨g3, rfl⟩ := HF3.out (by omega)
            obtain ⟨x, hx⟩ : ∃ x, O[k]? = some x := ⟨_, List.getElem?_eq_getElem (by rw [HLO.out]; exact hki)⟩
            have hxi := HOT.out x (List.mem_of_getElem? hx)
            obtain ⟨cx, hcx⟩ : ∃ c, l[x]? = some c := ⟨_, List.getElem?_eq_getElem (by rw [HL.out]; omega)⟩
            have hoc : wr.cell? ⟨g3, k, none⟩ = some (.int .i64 (x : Nat)) := HKW.out.cell (own_cell HO.out (map_at' natI hx)) id
            have HHI := Lib.hid (higher_any A n ca l x i cx ci wr ((HX.out.no HKP.out).no HKW.out) hcx HCI.out)
            have HXX := Lib.hid hx
            clear hx hcx
            obtain ⟨bb, hbb⟩ : ∃ bb, ltB l x i = bb := ⟨_, rfl⟩
            rw [hbb] at HHI
            have HBB := Lib.hid hbb
            clear hbb
            cases bb
            · go_wp2_with fail
              with_reducible refine HHI.out.mono ?_
              rintro e wq ⟨rfl, hg⟩
              have HK2 := Lib.hid (HKW.out.tr (kp_of_grow hg))
              clear HHI hg hoc
              go_wp2_with fail
              go_meet
              exact ⟨k, hk, rfl, ins_no HIN.out HXX.out HBB.out, HK2.out⟩
            · go_wp2_with fail
              with_reducible refine HHI.out.mono ?_
              rintro e wq ⟨rfl, hg⟩
              have HK2 := Lib.hid (HKW.out.tr (kp_of_grow hg))
              clear HHI hg hoc
              go_wp2_with fail
              go_roundw
              case rel => exact ⟨k + 1, by omega, by go_num, ins_on HIN.out HXX.out HBB.out, HK2.out⟩
              case measure => simp [intOf]; omega
          · have hd0 : decide ((k : Int) < (i : Nat)) = false := decide_eq_false (by omega)
            have hd1 : decide (k < i) = false := decide_eq_false hki
            have HKI := Lib.hid (show i ≤ k by omega)
            clear hki
            go_wp2_with fail
            go_meet
            exact ⟨k, hk, rfl, ins_end HIN.out (by rw [HLO.out]; exact HKI.out), HKW.out⟩
      case rest =>
      obtain ⟨k, hk, rfl, hins, hkw⟩ := hcut
      have HINS := Lib.hid hins
      replace HKP := Lib.hid (HKP.out.tr hkw)
      replace HO := Lib.hid (hkw.owns HO.out fun _ _ h => h)
      clear hins hkw
      have he := own_empty (w := wc) (base := wc.heap.size) (e := 3) (size := 1) (Nat.le_refl _)
      obtain ⟨w2, hw2⟩ : ∃ w2, wc.alloc (.cells #[] 3) = w2 := ⟨_, rfl⟩
      have k2 : Kp No wc w2 := by rw [← hw2]; exact Kp.alloc _ _ _
      rw [hw2] at he
      have HE := Lib.hid he
      have K2 := Lib.hid k2
      clear he k2
      have hki' : (k : Int) ≤ (i : Nat) := by omega
      have hkc' : (k : Int) ≤ (c3 : Nat) := by omega
      go_wp2_with (at_builtin; refine stop_in ?_)
      refine stop_out ?_
      clear hw2
      have hq0 : Qv wc w.heap.size 3 1 (.slice a3 i c3) i (O.map natI) := Qv.of_own HO.out
      have hnone : a3 = none → k = 0 ∧ c3 = 0 := fun e => by
        have h0 : i = 0 := by
          rcases Nat.eq_zero_or_pos i with h | h
          · exact h
          · obtain ⟨g, hg⟩ := HF3.out h
            rw [hg] at e
            cases e
        refine ⟨by omega, ?_⟩
        rcases hq0 with ⟨hv, _⟩ | ⟨g, off, cap, hv, _⟩
        · cases hv; rfl
        · rw [e] at hv; cases hv
      have HNONE := Lib.hid hnone
      have HSRC := Lib.hid (show ∀ ad, a3 = some ad → ∀ j u, (O.map natI)[j]? = some u → wc.cell? (ad.add j) = some u from fun ad had j u hu => by
        have hj : j < i := by
          have := (List.getElem?_eq_some_iff.1 hu).1
          rw [List.length_map, HLO.out] at this
          exact this
        obtain ⟨g, hg⟩ := HF3.out (by omega)
        rw [had] at hg
        cases hg
        subst had
        have := own_cell HO.out hu
        rw [add_at, Nat.zero_add]
        exact this)
      clear hq0 hnone
      refine wpL_append_any rfl _ _ 57 rfl wc.heap.size 3 i1 (.int .i64 0) 1 8 Try.underlying57 hi1 hz11 hz12 hz13 rfl (by decide) (.slice (some ⟨wc.heap.size, 0, none⟩) 0 0) 0 [] rfl HE.out a3 k c3 ((O.take k).map natI) rfl (by rw [List.length_map, List.length_take, HLO.out]; omega) HNONE.out (fun ad had j u hu => K2.out.cell (HSRC.out ad had j u (by rw [List.map_take, List.getElem?_take] at hu; split at hu; exact hu; cases hu)) id) (fun u hu => by obtain ⟨x, _, rfl⟩ := List.mem_map.1 hu; rfl) (by unfold maxLen; omega) (by omega) K2.out.size ?_
      intro v6 w6 hown6 hgrow6 _
      have K6 := Lib.hid (kp_app0 K2.out HE.out (Nat.le_refl _) hgrow6)
      rw [Nat.zero_add, List.nil_append] at hown6
      obtain ⟨a6, c6, rfl, _⟩ := own_form hown6
      have OW6 := Lib.hid hown6
      clear hown6 hgrow6 HE K2
      go_wp2_with (at_builtin; refine stop_in ?_)
      refine stop_out ?_
      refine wpL_append_any rfl _ _ 57 rfl wc.heap.size 3 i1 (.int .i64 0) 1 8 Try.underlying57 hi1 hz11 hz12 hz13 rfl (by decide) (.slice a6 k c6) k ((O.take k).map natI) rfl (OW6.out.alloc _) (some ⟨w6.heap.size, 0, none⟩) 1 1 [natI i] rfl rfl (fun h => by cases h) (fun ad had j u hu => by cases had; exact new_cells w6 [natI i] (by unfold maxLen; simp) j u hu) (fun u hu => by simp at hu; subst hu; rfl) (by unfold maxLen; omega) (by omega) (by have := K6.out.size; simp; omega) ?_
      intro v9 w9 hown9 hgrow9 _
      have K9 := Lib.hid (kp_app K6.out OW6.out (Nat.le_refl _) hgrow9)
      obtain ⟨a9, c9, rfl, _⟩ := own_form hown9
      have OW9 := Lib.hid hown9
      clear hown9 hgrow9 K6 OW6
      by_cases hck : c3 = k
      · have HIK := Lib.hid (show i = k by omega)
        go_wp2_with (at_builtin; refine stop_in ?_)
        refine stop_out ?_
        refine wpL_append_any rfl _ _ 57 rfl wc.heap.size 3 i1 (.int .i64 0) 1 8 Try.underlying57 hi1 hz11 hz12 hz13 rfl (by decide) (.slice a9 (k + 1) c9) (k + 1) ((O.take k).map natI ++ [natI i]) rfl OW9.out (a3) (i - k) 0 ((O.drop k).map natI) rfl (by rw [List.length_map, List.length_drop, HLO.out]; omega) (fun e => ?_) (fun ad had j u hu => ?_) (fun u hu => by obtain ⟨x, _, rfl⟩ := List.mem_map.1 hu; rfl) (by unfold maxLen; omega) (by omega) K9.out.size ?_
        · exact ⟨by have := HIK.out; omega, rfl⟩
        · rw [List.drop_of_length_le (by rw [HLO.out, HIK.out]; exact Nat.le_refl _)] at hu
          cases hu
        intro vE wE hownE hgrowE _
        have KE := Lib.hid (kp_app0 K9.out OW9.out (Nat.le_refl _) hgrowE)
        rw [show k + 1 + (i - k) = i + 1 by omega] at hownE
        have OE := Lib.hid (show wE.ownsRow w.heap.size 3 1 vE (i + 1) ((ordK l (i + 1)).map natI) by
          rw [ordK_succ, HOE.out, HINS.out]
          have h := own_mono hownE HKP.out.size
          simpa using h)
        clear hownE hgrowE K9 OW9
        go_wp2_with fail
        go_roundw
        case rel => exact ⟨i + 1, vE, by omega, rfl, by go_num, OE.out, HKP.out.tr KE.out⟩
        case measure => simp [intOf]; omega
      · have hck' : ¬ k = c3 := fun e => hck e.symm
        go_wp2_with (at_builtin; refine stop_in ?_)
        refine stop_out ?_
        refine wpL_append_any rfl _ _ 57 rfl wc.heap.size 3 i1 (.int .i64 0) 1 8 Try.underlying57 hi1 hz11 hz12 hz13 rfl (by decide) (.slice a9 (k + 1) c9) (k + 1) ((O.take k).map natI ++ [natI i]) rfl OW9.out (Option.map (fun x => x.add k) a3) (i - k) (c3 - k) ((O.drop k).map natI) rfl (by rw [List.length_map, List.length_drop, HLO.out]; omega) (fun e => ?_) (fun ad had j u hu => ?_) (fun u hu => by obtain ⟨x, _, rfl⟩ := List.mem_map.1 hu; rfl) (by unfold maxLen; omega) (by omega) K9.out.size ?_
        · cases a3 with
          | none =>
            have := HNONE.out rfl
            omega
          | some ad => cases e
        · have hjl : k + j < i := by
            have := (List.getElem?_eq_some_iff.1 hu).1
            rw [List.length_map, List.length_drop, HLO.out] at this
            omega
          obtain ⟨g, hg⟩ := HF3.out (by omega)
          subst hg
          cases had
          refine K9.out.cell ?_ id
          have h := HSRC.out _ rfl (k + j) u (by rw [List.map_drop, List.getElem?_drop] at hu; exact hu)
          rw [add_at] at h
          dsimp only
          rw [add_at, add_at, Nat.zero_add]
          rw [Nat.zero_add] at h
          exact h
        intro vE wE hownE hgrowE _
        have KE := Lib.hid (kp_app0 K9.out OW9.out (Nat.le_refl _) hgrowE)
        rw [show k + 1 + (i - k) = i + 1 by omega] at hownE
        have OE := Lib.hid (show wE.ownsRow w.heap.size 3 1 vE (i + 1) ((ordK l (i + 1)).map natI) by
          rw [ordK_succ, HOE.out, HINS.out]
          have h := own_mono hownE HKP.out.size
          simpa using h)
        clear hownE hgrowE K9 OW9
        go_wp2_with fail
        go_roundw
        case rel => exact ⟨i + 1, vE, by omega, rfl, by go_num, OE.out, HKP.out.tr KE.out⟩
        case measure => simp [intOf]; omega
    · obtain rfl : i = n := by omega
      go_wp2_with fail
      go_ret
      refine ⟨_, rfl, ?_, HKP.out⟩
      have e : ordF l = O := by rw [← HOE.out, ← HL.out]; rfl
      rw [e]
      exact HO.out
end Go.Proofs.Ytamjhpdgclbfgaa
