/- Chapter 33: the voices of a division and the divisions of voices: walks. · Chapter 33: the library's functions at this dump, as their contracts want them (printed by lay.py). -/
import Derived.Shelf.Lays
import Derived.Shelf.Lays2
import Derived.Ground.NamesProg
import Derived.Ground.Names2Prog
import Derived.Shelf.SlGeneric
import Derived.Test.YtfflhlmnfhfcgaaProg
import Derived.Test.YtfflhlmnfhfcgaaXRtQ
import Derived.Test.YtfflhlmnfhfcgaaXRbst
namespace Go.Proofs.Ytfflhlmnfhfcgaa
open Go.RowKit Go.Kq

set_option maxHeartbeats 4000000 in
set_option maxRecDepth 100000 in
theorem part_any (A : Option Addr) (n ca : Nat) (xs : List Vc) (d a : Int) (w : World) (hx : RdV w A n xs) (hn : n ≤ 100) :
    Calls Try.prog 61 #[.slice A n ca, .int .i64 d, .int .i64 a] w fun e w' => ∃ v u, e = .returned (.tuple #[v, u]) ∧ w'.ownsRow w.heap.size 38 4 v (pin xs d n).length (flat (pvo xs d a n)) ∧ w'.ownsRow w.heap.size 3 1 u (pin xs d n).length ((pin xs d n).map natV) ∧ Kp No w w' := by
  obtain ⟨i0, hi0, hz0, hz1, hz2⟩ := info_parts info3
  obtain ⟨i1, hi1, hy0, hy1, hy2⟩ := info_parts info38
  have hxl := hx.1
  go_enter Try.func61, Try.ntmps61
  go_wp2_with fail
  go_loopw [6, 7, 12] (fun vv vl vi wr => ∃ k : Nat, k ≤ n ∧ vi = .int .i64 k ∧ wr.ownsRow w.heap.size 38 4 vv (pin xs d k).length (flat (pvo xs d a k)) ∧ wr.ownsRow w.heap.size 3 1 vl (pin xs d k).length ((pin xs d k).map natV) ∧ Kp No w wr) (fun _ _ vi _ => n - (intOf vi).toNat)
  case atStart => exact ⟨0, by omega, rfl, ⟨rfl, .inl ⟨rfl, rfl⟩⟩, ⟨rfl, .inl ⟨rfl, rfl⟩⟩, Kp.refl _ _⟩
  case round =>
    obtain ⟨k, hk, rfl, hov, hol, hkp⟩ := hrel
    have HOL := Lib.hid hol
    have HOV := Lib.hid hov
    clear hol hov
    by_cases hltk : k < n
    · obtain ⟨v, hv⟩ : ∃ v, xs[k]? = some v := ⟨_, List.getElem?_eq_getElem (by omega)⟩
      obtain ⟨b, o, rfl, hb, c0, c1, c2, c3⟩ := (hx.no hkp).2 k v hv
      have HV := Lib.hid hv
      clear hv
      have hpl := pin_le xs d k
      by_cases hbd : v.d = d
      · have hbt : (v.d == d) = true := by rw [beq_iff_eq]; exact hbd
        have HP := Lib.hid (pin_yes HV.out hbd)
        have HQ := Lib.hid (pvo_yes (a := a) HV.out hbd)
        clear hbd
        generalize pin xs d k = L at *
        generalize pvo xs d a k = V at *
        obtain ⟨al, cl, rfl, _, _, _⟩ := own_form HOL.out
        obtain ⟨av, cv, rfl, _, _, _⟩ := own_form HOV.out
        go_wp2_with (at_builtin; refine stop_in ?_)
        obtain ⟨wx, hwx⟩ : ∃ wx, wx = wr.alloc (.cells #[.int .i64 a, .int .i64 v.p, .int .i64 v.f, .int .i64 v.q] 38) := ⟨_, rfl⟩
        have hsx : wr.heap.size + 1 = wx.heap.size := by rw [hwx]; simp
        have hkx : Kp No w wx := by rw [hwx]; exact hkp.tr (Kp.alloc _ _ _)
        have HOLX := Lib.hid (show wx.ownsRow w.heap.size 3 1 (.slice al L.length cl) L.length (L.map natV) by rw [hwx]; exact HOL.out.alloc _)
        have HOVX := Lib.hid (show wx.ownsRow w.heap.size 38 4 (.slice av L.length cv) L.length (flat V) by rw [hwx]; exact HOV.out.alloc _)
        rw [← hwx, hsx]
        clear HOL HOV hwx hsx c0 c1 c2 c3 hbt
        refine stop_out ?_
        refine wpList_append_own_at _ rfl _ _ 22 rfl w.heap.size 38 i1 (.agg #[.int .i64 0, .int .i64 0, .int .i64 0, .int .i64 0]) 4 32 Try.underlying22 hi1 hy0 hy1 hy2 rfl (by decide) (.slice av L.length cv) L.length (flat V) rfl (HOVX.out.alloc _) ⟨wx.heap.size, 0, none⟩ 1 1 (setD a v).cells4 rfl rfl (new4 wx (setD a v)) (cells4_one _) (by unfold maxLen; omega) (by omega) (by have := hkx.size; simp; omega) ?_
        intro v2 w6 hown' hgrow hnil hat
        have hk6 : Kp No w w6 := hkx.trans ((Kp.alloc (fun g => w.heap.size ≤ g) _ _).tr (Kp.grown hgrow fun g hg _ => (own_ge HOVX.out hg).1)) (fun g hg h => absurd h (Nat.not_le.2 hg))
        have hol6 := (Kp.grown (S := fun g => (Value.slice av L.length cv).ownBlock = some g) hgrow fun g hg _ => hg).owns (HOLX.out.alloc (.cells #[.int .i64 a, .int .i64 v.p, .int .i64 v.f, .int .i64 v.q] 38)) fun g hg hS => own_apart HOVX.out HOLX.out (by decide) hS hg
        rw [← flat_snoc] at hown'
        have HOL6 := Lib.hid hol6
        have HOV6 := Lib.hid hown'
        clear hown' hgrow hnil hat hol6
        go_wp2_with (at_builtin; refine stop_in ?_)
        refine stop_out ?_
        refine wpList_append_own_at _ rfl _ _ 23 rfl w.heap.size 3 i0 (.int .i64 0) 1 8 Try.underlying23 hi0 hz0 hz1 hz2 rfl (by decide) (.slice al L.length cl) L.length (L.map natV) rfl (HOL6.out.alloc (.cells #[.int .i64 k] 3)) ⟨w6.heap.size, 0, none⟩ 1 1 [.int .i64 k] rfl rfl (cell_one_new w6 _ _) (ints_oneCell .i64 [(k : Int)]) (by unfold maxLen; omega) (by omega) (by have := hk6.size; simp; omega) ?_
        intro v' w7 hown' hgrow hnil hat
        have hk7 : Kp No w w7 := hk6.trans ((Kp.alloc (fun g => w.heap.size ≤ g) _ _).tr (Kp.grown hgrow fun g hg _ => (own_ge HOL6.out hg).1)) (fun g hg h => absurd h (Nat.not_le.2 hg))
        have hov7 := (Kp.grown (S := fun g => (Value.slice al L.length cl).ownBlock = some g) hgrow fun g hg _ => hg).owns (HOV6.out.alloc (.cells #[.int .i64 k] 3)) fun g hg hS => own_apart HOL6.out HOV6.out (by decide) hS hg
        have HOL7 := Lib.hid hown'
        have HOV7 := Lib.hid hov7
        clear hown' hgrow hnil hat hov7
        go_wp2_with fail
        go_roundw
        case rel => exact ⟨k + 1, by omega, by go_num, by rw [HP.out, HQ.out, List.length_append]; exact HOV7.out, by rw [HP.out, List.length_append, List.map_append]; exact HOL7.out, hk7⟩
        case measure => simp [intOf]; omega
      · have hbt : (v.d == d) = false := by rw [beq_eq_false_iff_ne]; exact hbd
        have HP := Lib.hid (pin_no HV.out hbd)
        have HQ := Lib.hid (pvo_no (a := a) HV.out hbd)
        clear hbd
        go_wp2_with fail
        go_roundw
        case rel => exact ⟨k + 1, by omega, by go_num, by rw [HP.out, HQ.out]; exact HOV.out.alloc _, by rw [HP.out]; exact HOL.out.alloc _, hkp.tr (Kp.alloc _ _ _)⟩
        case measure => simp [intOf]; omega
    · obtain rfl : k = n := by omega
      obtain ⟨al, cl, rfl, _, _, _⟩ := own_form HOL.out
      obtain ⟨av, cv, rfl, _, _, _⟩ := own_form HOV.out
      go_wp2_with fail
      go_ret2
      exact ⟨_, _, rfl, HOV.out, HOL.out, hkp⟩
end Go.Proofs.Ytfflhlmnfhfcgaa

namespace Go.Proofs.Ytfflhlmnfhfcgaa
open Go.Shelf
def sortOI_ren : Go.Shelf.Ren := ⟨fun | 189 => 42 | 125 => 63 | 257 => 62 | 128 => 83 | 129 => 84 | 294 => 74 | 295 => 75 | 296 => 76 | 297 => 77 | 298 => 78 | 299 => 79 | 216 => 80 | 300 => 81 | 301 => 82 | 328 => 88 | 329 => 89 | 330 => 90 | 331 => 91 | 332 => 92 | 215 => 87 | 343 => 101 | n => n, fun | 28 => 23 | 3 => 3 | 46 => 36 | 0 => 0 | 51 => 124 | 53 => 126 | 4 => 4 | 183 => 116 | 182 => 115 | 131 => 121 | 5 => 5 | 9 => 9 | 218 => 130 | 222 => 134 | 228 => 141 | 229 => 142 | n => n, fun | n => n⟩
theorem sortOI : Go.Proofs.Lays.n189 Try.prog sortOI_ren := {
  mixed := by kernel_rfl
  f125 := Try.func63.trans (congrArg some (by kernel_rfl))
  f128 := Try.func83.trans (congrArg some (by kernel_rfl))
  f129 := Try.func84.trans (congrArg some (by kernel_rfl))
  f189 := Try.func42.trans (congrArg some (by kernel_rfl))
  f215 := Try.func87.trans (congrArg some (by kernel_rfl))
  f216 := Try.func80.trans (congrArg some (by kernel_rfl))
  f257 := Try.func62.trans (congrArg some (by kernel_rfl))
  f294 := Try.func74.trans (congrArg some (by kernel_rfl))
  f295 := Try.func75.trans (congrArg some (by kernel_rfl))
  f296 := Try.func76.trans (congrArg some (by kernel_rfl))
  f297 := Try.func77.trans (congrArg some (by kernel_rfl))
  f298 := Try.func78.trans (congrArg some (by kernel_rfl))
  f299 := Try.func79.trans (congrArg some (by kernel_rfl))
  f300 := Try.func81.trans (congrArg some (by kernel_rfl))
  f301 := Try.func82.trans (congrArg some (by kernel_rfl))
  f328 := Try.func88.trans (congrArg some (by kernel_rfl))
  f329 := Try.func89.trans (congrArg some (by kernel_rfl))
  f330 := Try.func90.trans (congrArg some (by kernel_rfl))
  f331 := Try.func91.trans (congrArg some (by kernel_rfl))
  f332 := Try.func92.trans (congrArg some (by kernel_rfl))
  f343 := Try.func101.trans (congrArg some (by kernel_rfl))
  t0 := Try.underlying0
  a0 := Try.isAgg0
  z0 := Try.sizeOf0
  v0 := Try.zeroValue0
  t3 := Try.underlying3
  a3 := Try.isAgg3
  z3 := Try.sizeOf3
  v3 := Try.zeroValue3
  t4 := Try.underlying4
  a4 := Try.isAgg4
  z4 := Try.sizeOf4
  v4 := Try.zeroValue4
  t5 := Try.underlying5
  a5 := Try.isAgg5
  z5 := Try.sizeOf5
  v5 := Try.zeroValue5
  t9 := Try.underlying9
  a9 := Try.isAgg9
  z9 := Try.sizeOf9
  v9 := Try.zeroValue9
  t28 := Try.underlying23
  a28 := Try.isAgg23
  z28 := Try.sizeOf23
  v28 := Try.zeroValue23
  t46 := Try.underlying36
  a46 := Try.isAgg36
  z46 := Try.sizeOf36
  v46 := Try.zeroValue36
  t51 := Try.underlying124
  a51 := Try.isAgg124
  z51 := Try.sizeOf124
  v51 := Try.zeroValue124
  t53 := Try.underlying126
  a53 := Try.isAgg126
  z53 := Try.sizeOf126
  v53 := Try.zeroValue126
  t131 := Try.underlying121
  a131 := Try.isAgg121
  z131 := Try.sizeOf121
  v131 := Try.zeroValue121
  t182 := Try.underlying115
  a182 := Try.isAgg115
  z182 := Try.sizeOf115
  v182 := Try.zeroValue115
  t183 := Try.underlying116
  a183 := Try.isAgg116
  z183 := Try.sizeOf116
  v183 := Try.zeroValue116
  t218 := Try.underlying130
  a218 := Try.isAgg130
  z218 := Try.sizeOf130
  v218 := Try.zeroValue130
  t222 := Try.underlying134
  a222 := Try.isAgg134
  z222 := Try.sizeOf134
  v222 := Try.zeroValue134
  t228 := Try.underlying141
  a228 := Try.isAgg141
  z228 := Try.sizeOf141
  v228 := Try.zeroValue141
  t229 := Try.underlying142
  a229 := Try.isAgg142
  z229 := Try.sizeOf142
  v229 := Try.zeroValue142 }
def compI_ren : Go.Shelf.Ren := ⟨fun | 20 => 60 | n => n, fun | 22 => 23 | 3 => 3 | 4 => 4 | 0 => 0 | n => n, fun | n => n⟩
theorem compI : Go.Proofs.Lays2.n20 Try.prog compI_ren := {
  mixed := by kernel_rfl
  f20 := Try.func60.trans (congrArg some (by kernel_rfl))
  t0 := Try.underlying0
  a0 := Try.isAgg0
  z0 := Try.sizeOf0
  v0 := Try.zeroValue0
  t3 := Try.underlying3
  a3 := Try.isAgg3
  z3 := Try.sizeOf3
  v3 := Try.zeroValue3
  t4 := Try.underlying4
  a4 := Try.isAgg4
  z4 := Try.sizeOf4
  v4 := Try.zeroValue4
  t22 := Try.underlying23
  a22 := Try.isAgg23
  z22 := Try.sizeOf23
  v22 := Try.zeroValue23
  i3 := by kernel_rfl }
end Go.Proofs.Ytfflhlmnfhfcgaa
