/- Great numbers by limbs: power with exponent 2: the walk (printed by gen_nty.py). · Fractions: QPow with exponent 2: the walk. · A region that draws its order, calls what writes nothing, and stores one cell: an invariant for wp_region_each. No program in sight. -/
import Derived.Test.YtlieijnhaolnhaaGreatXNtxM
import Derived.Test.YtlieijnhaolnhaaGreatXLibBoxM
namespace Go.Proofs.YtlieijnhaolnhaaGreat
open Go.RowKit Go.Kq

theorem cmpN_le {a b : Nat} (h : a ≤ b) : cmpN a b ≤ 0 := by
  unfold cmpN
  split <;> (try split) <;> omega
theorem cmpN_gt {a b : Nat} (h : b < a) : 0 < cmpN a b := by
  unfold cmpN
  split <;> (try split) <;> omega
set_option maxHeartbeats 1000000 in
theorem power_two (u : Value) (x k : Nat) (w : World) (hu : IsNat w u x k) (hk : k ≤ 150) :
    Calls Tryz.prog 116 #[u, .int .i64 2] w fun e w' => ∃ z, e = .returned (.tuple #[z, .bool true]) ∧ IsNew w.heap.size w' z (x * x) (2 * k + 4) ∧ Kp No w w' := by
  have OF := Lib.hid (of_any 1 w (by omega))
  have HU := Lib.hid hu
  have TI := Lib.hid (fun (z : Value) (y m : Nat) (w0 : World) (hz : IsNat w0 z y m) (hk0 : Kp No w w0) (hm : m ≤ 400) => times_new z u y x m k (m + k + 1) w0 hz (hu.no hk0) (by omega) (by omega) (by omega))
  have OR := Lib.hid (fun (z : Value) (w0 : World) (hz : IsNat w0 z 1 2) (hk0 : Kp No w w0) => order_is u z x 1 k 2 w0 (hu.no hk0) hz (by omega) (by omega))
  obtain ⟨A, n, c, l, rfl, _⟩ := hu.pos
  clear hu
  go_enter Tryz.func116, Tryz.ntmps116
  go_wp2_with fail
  refine OF.out.mono ?_
  rintro _ w1 ⟨v, rfl, hv, k1⟩
  have HV := Lib.hid hv
  have K1 := Lib.hid k1
  obtain ⟨V0, n0, c0, l0, rfl, _⟩ := hv.1.pos
  clear hv k1 OF
  go_wp2_with fail
  refine (OR.out _ _ HV.out.1 K1.out).mono ?_
  rintro _ w2 ⟨rfl, rfl⟩
  by_cases hx : x ≤ 1
  · have hc := cmpN_le hx
    have HX := Lib.hid (show x ^ 1 = x * x by
      have : x = 0 ∨ x = 1 := by omega
      rcases this with rfl | rfl <;> rfl)
    generalize cmpN x 1 = cc at hc ⊢
    clear hx OR
    go_wp2_with fail
    go_loopw [6, 7] (fun a b wr => ∃ i : Nat, b = .int .i64 (i : Nat) ∧ i ≤ 1 ∧ IsNew w.heap.size wr a (x ^ i) (2 + i * (k + 1)) ∧ Kp No w wr) (fun _ t _ => (1 - intOf t).toNat)
    case atStart => exact ⟨0, rfl, by omega, ⟨by simpa using HV.out.1, HV.out.2⟩, K1.out⟩
    case round =>
      obtain ⟨i, rfl, hi, ha, hkp⟩ := hrel
      have HA := Lib.hid ha
      have KP := Lib.hid hkp
      obtain ⟨A3, n3, c3, l3, rfl, _⟩ := ha.1.pos
      clear ha hkp
      by_cases hlt : i < 1
      · have g1 : (i : Int) < 1 := by omega
        have g2 : IntKind.i64.wrap ((i : Int) + 1) = (i : Int) + 1 := by rw [IntKind.wrap_i64]; omega
        have hm : 2 + i * (k + 1) ≤ 400 := by
          have : i = 0 ∨ i = 1 := by omega
          rcases this with rfl | rfl <;> omega
        have hm2 : 2 + i * (k + 1) + k + 1 ≤ 400 := by
          have : i = 0 ∨ i = 1 := by omega
          rcases this with rfl | rfl <;> omega
        have hsz := KP.out.size
        go_wp2_with fail
        refine (TI.out _ _ _ _ HA.out.1 KP.out hm).mono ?_
        rintro _ w4 ⟨z, rfl, hz, k4⟩
        have HZ := Lib.hid (hz.mono hsz)
        have K4 := Lib.hid k4
        obtain ⟨A5, n5, c5, l5, rfl, _, _, hn5, _⟩ := hz.1.pos
        have g3 : ((n5 : Nat) : Int) ≤ 512 := by omega
        clear hz k4 hn5
        go_wp2_with fail
        go_round
        case rel => exact ⟨i + 1, rfl, hlt, by rw [Nat.pow_succ, show 2 + (i + 1) * (k + 1) = 2 + i * (k + 1) + k + 1 by rw [Nat.add_mul]; omega]; exact HZ.out, KP.out.tr K4.out⟩
        case measure => simp [intOf] <;> omega
      · obtain rfl : i = 1 := by omega
        go_wp2_with fail
        exact bodyPost_ret (v := .tuple #[.slice A3 n3 c3, .bool true]) (by simp [results, Tryz.results116, go_sem]) rfl ⟨_, rfl, by rw [← HX.out]; exact ⟨HA.out.1.le (by omega), HA.out.2⟩, KP.out⟩
  · have hc := cmpN_gt (show 1 < x by omega)
    have HX := Lib.hid (show x ^ 2 = x * x by rw [Nat.pow_succ, Nat.pow_one])
    generalize cmpN x 1 = cc at hc ⊢
    clear hx OR
    go_wp2_with fail
    go_loopw [6, 7] (fun a b wr => ∃ i : Nat, b = .int .i64 (i : Nat) ∧ i ≤ 2 ∧ IsNew w.heap.size wr a (x ^ i) (2 + i * (k + 1)) ∧ Kp No w wr) (fun _ t _ => (2 - intOf t).toNat)
    case atStart => exact ⟨0, rfl, by omega, ⟨by simpa using HV.out.1, HV.out.2⟩, K1.out⟩
    case round =>
      obtain ⟨i, rfl, hi, ha, hkp⟩ := hrel
      have HA := Lib.hid ha
      have KP := Lib.hid hkp
      obtain ⟨A3, n3, c3, l3, rfl, _⟩ := ha.1.pos
      clear ha hkp
      by_cases hlt : i < 2
      · have g1 : (i : Int) < 2 := by omega
        have g2 : IntKind.i64.wrap ((i : Int) + 1) = (i : Int) + 1 := by rw [IntKind.wrap_i64]; omega
        have hm : 2 + i * (k + 1) ≤ 400 := by
          have : i = 0 ∨ i = 1 := by omega
          rcases this with rfl | rfl <;> omega
        have hm2 : 2 + i * (k + 1) + k + 1 ≤ 400 := by
          have : i = 0 ∨ i = 1 := by omega
          rcases this with rfl | rfl <;> omega
        have hsz := KP.out.size
        go_wp2_with fail
        refine (TI.out _ _ _ _ HA.out.1 KP.out hm).mono ?_
        rintro _ w4 ⟨z, rfl, hz, k4⟩
        have HZ := Lib.hid (hz.mono hsz)
        have K4 := Lib.hid k4
        obtain ⟨A5, n5, c5, l5, rfl, _, _, hn5, _⟩ := hz.1.pos
        have g3 : ((n5 : Nat) : Int) ≤ 512 := by omega
        clear hz k4 hn5
        go_wp2_with fail
        go_round
        case rel => exact ⟨i + 1, rfl, hlt, by rw [Nat.pow_succ, show 2 + (i + 1) * (k + 1) = 2 + i * (k + 1) + k + 1 by rw [Nat.add_mul]; omega]; exact HZ.out, KP.out.tr K4.out⟩
        case measure => simp [intOf] <;> omega
      · obtain rfl : i = 2 := by omega
        go_wp2_with fail
        exact bodyPost_ret (v := .tuple #[.slice A3 n3 c3, .bool true]) (by simp [results, Tryz.results116, go_sem]) rfl ⟨_, rfl, by rw [← HX.out]; exact ⟨HA.out.1.le (by omega), HA.out.2⟩, KP.out⟩
end Go.Proofs.YtlieijnhaolnhaaGreat

namespace Go.Proofs.YtlieijnhaolnhaaGreat
open Go.RowKit Go.Kq

set_option maxHeartbeats 1000000 in
set_option maxRecDepth 100000 in
theorem qsq_is (u : Value) (a : Rat) (k : Nat) (w : World) (hu : IsQuo w u a k) (hk : k ≤ 140) :
    Calls Tryz.prog 78 #[u, .int .i64 2] w fun e w' => ∃ z, e = .returned (.tuple #[z, .int .i64 0]) ∧ IsQuo w' z (a * a) (2 * k + 4) ∧ Kp No w w' := by
  have hu0 := hu
  obtain ⟨n1, d1, rfl, hn1, hd1⟩ := hu
  have hlow := mul_low a a
  have hdp : 0 < a.den * a.den := Nat.mul_pos a.den_pos a.den_pos
  rw [show (negQ a != negQ a) = false by cases negQ a <;> rfl] at hlow
  obtain ⟨s1, hs1⟩ : ∃ s, negQ a = s := ⟨_, rfl⟩
  rw [hs1] at hu0 ⊢
  have BQ := Lib.hid (fun (g : Nat) (w0 : World) (hk0 : Kp No w w0) (hh : w0.heap[g]? = some (.cells #[.bool s1, n1, d1] 94 (0, 0))) => badq_is g 1 1 [a] w0 rfl (by omega) (qat_one hh hs1 ((hu0.no hk0).le (by omega))))
  have P1 := Lib.hid (fun (w0 : World) (hk0 : Kp No w w0) => power_two n1 _ k w0 (hn1.no hk0) (by omega))
  have P2 := Lib.hid (fun (w0 : World) (hk0 : Kp No w w0) => power_two d1 _ k w0 (hd1.no hk0) (by omega))
  have LW := Lib.hid (fun (w0 : World) (x y : Value) hx hy => lowest_is false x y (a.num.natAbs * a.num.natAbs) (a.den * a.den) (2 * k + 4) w0 hx hy (by omega) hdp)
  rw [← hlow] at LW
  clear hlow hdp
  generalize a.num.natAbs = x1 at *
  generalize a.den = y1 at *
  generalize a * a = qq at *
  obtain ⟨A1, m1, c1, _, rfl, _⟩ := hn1.pos
  obtain ⟨A2, m2, c2, _, rfl, _⟩ := hd1.pos
  clear hn1 hd1 hu0 hs1
  obtain ⟨h1, h2, h3, KA⟩ := three_new w (.cells #[.bool s1, .slice A1 m1 c1, .slice A2 m2 c2] 94) (.cells #[.bool false, .slice none 0 0, .slice none 0 0] 94) (.cells #[.bool s1, .slice A1 m1 c1, .slice A2 m2 c2] 94)
  replace h1 := Lib.hid h1
  replace h2 := Lib.hid h2
  replace h3 := Lib.hid h3
  replace KA := Lib.hid KA
  go_enter Tryz.func78, Tryz.ntmps78
  go_wp2_with fail
  refine (BQ.out _ _ KA.out h3.out).mono ?_
  rintro _ wb ⟨rfl, kb⟩
  have KB := Lib.hid (KA.out.tr kb)
  have HB1 := kb.heap h1.out id
  obtain ⟨a0, a1, a2, _⟩ := three_cells HB1
  have HB2 := Lib.hid (kb.heap h2.out id)
  clear h1 h2 h3 KA kb BQ
  replace HB1 := Lib.hid HB1
  go_wp2_with fail
  go_quiet (fail)
  have kq := Kp.drewN No wb nq
  have KC := Lib.hid (KB.out.tr kq)
  replace a0 := kq.cell a0 id
  have HC1 := Lib.hid (kq.heap HB1.out id)
  have HC2 := Lib.hid (kq.heap HB2.out id)
  generalize wb.drewN nq = wc at *
  clear KB HB1 HB2 kq a1 a2
  go_wp2_with fail
  refine (P1.out _ KC.out).mono ?_
  rintro _ wd ⟨n, rfl, hn, kd⟩
  have HN := Lib.hid hn
  have KD := Lib.hid (KC.out.tr kd)
  have HD1 := Lib.hid (kd.heap HC1.out id)
  have HD2 := Lib.hid (kd.heap HC2.out id)
  obtain ⟨A3, m3, c3, _, rfl, _⟩ := hn.1.pos
  clear hn kd KC HC1 HC2 a0 P1
  go_wp2_with fail
  refine (P2.out _ KD.out).mono ?_
  rintro _ we ⟨d, rfl, hd, ke⟩
  have HN2 := Lib.hid (HN.out.no ke)
  have HD := Lib.hid hd
  have KE := Lib.hid (KD.out.tr ke)
  have HE1 := ke.heap HD1.out id
  obtain ⟨a0, _⟩ := three_cells HE1
  have HE2 := Lib.hid (ke.heap HD2.out id)
  obtain ⟨A4, m4, c4, _, rfl, _⟩ := hd.1.pos
  clear hd ke KD HD1 HD2 HN P2 HE1
  cases s1 <;> (
    go_wp2_with fail
    refine (LW.out _ _ _ HN2.out.1 HD.out.1).mono ?_
    rintro _ wf ⟨z, rfl, hz, kf⟩
    have KF := Lib.hid (KE.out.tr kf)
    have HF2 := kf.heap HE2.out id
    have hs2 : w.heap.size + 1 < wf.heap.size := (Array.getElem?_eq_some_iff.1 HF2).1
    obtain ⟨nn, dd, rfl, hnn, hdd⟩ := hz
    obtain ⟨A5, m5, c5, _, rfl, _⟩ := hnn.1.pos
    obtain ⟨A6, m6, c6, _, rfl, _⟩ := hdd.1.pos
    have hse : w.heap.size + 1 < we.heap.size := (Array.getElem?_eq_some_iff.1 HE2.out).1
    have HNN := Lib.hid hnn
    have HDD := Lib.hid hdd
    obtain ⟨x0, x1, x2, y0, y1, y2⟩ := three_cells HF2
    have HF := Lib.hid HF2
    clear hnn hdd kf HF2 LW
    go_wp2_with fail
    have hs := setQ_at HF.out (.bool (negQ qq)) (.slice A5 m5 c5) (.slice A6 m6 c6)
    have hk := kp_setQ wf (w.heap.size + 1) (.bool (negQ qq)) (.slice A5 m5 c5) (.slice A6 m6 c6)
    obtain ⟨z0, z1, z2, _⟩ := three_cells hs
    exact bodyPost_ret (v := .tuple #[.agg #[.bool (negQ qq), .slice A5 m5 c5, .slice A6 m6 c6], .int .i64 0]) (by simp [results, Tryz.results78, go_sem, z0, z1, z2]) rfl ⟨_, rfl, ⟨_, _, rfl, (HNN.out.kp hk hse).1, (HDD.out.kp hk hse).1⟩, KF.out.trans hk (fun k hk e => by unfold Kq.One at e; omega)⟩)
end Go.Proofs.YtlieijnhaolnhaaGreat

namespace Go.Kq
open Go.RowKit

/-- Operation st stores V at ad; ch: which operation comes behind which one. -/
structure HvC (base : World) (ad : Addr) (V : Value) (st : Nat) (ch : List (Nat × Nat)) (r : Nat → Option Value) (w : World) : Prop where
  b0 : r st = none → Kp No base w
  b1 : r st ≠ none → ∃ w0, Kp No base w0 ∧ w = w0.setCell ad V
  bl : ∀ p ∈ ch, r p.1 ≠ none → r p.2 ≠ none
section
variable {base w : World} {ad : Addr} {V : Value} {st : Nat} {ch : List (Nat × Nat)} {r : Nat → Option Value}
theorem HvC.start (base : World) (ad : Addr) (V : Value) (st : Nat) (ch : List (Nat × Nat)) : HvC base ad V st ch (fun _ => none) base.drew := ⟨fun _ => Kp.drew _ _, fun h => absurd rfl h, fun _ _ h => absurd rfl h⟩
theorem HvC.back (h : HvC base ad V st ch r w) {x y : Nat} (hp : (x, y) ∈ ch) (hy : r y = none) : r x = none :=
  Classical.byContradiction fun e => h.bl _ hp e hy
theorem upd_some {r : Nat → Option Value} {i j : Nat} {v : Value} (h : r j ≠ none) : Kq.upd r i v j ≠ none := by
  by_cases e : j = i
  · subst e; rw [upd_same]; exact fun h => by cases h
  · rw [upd_ne _ _ e]; exact h
theorem chain_upd {r : Nat → Option Value} {i : Nat} {v : Value} (hb : ∀ p ∈ ch, r p.1 ≠ none → r p.2 ≠ none) (hc : ∀ p ∈ ch, p.1 = i → r p.2 ≠ none) : ∀ p ∈ ch, Kq.upd r i v p.1 ≠ none → Kq.upd r i v p.2 ≠ none := fun p hp h => by
  by_cases e : p.1 = i
  · exact upd_some (hc p hp e)
  · rw [upd_ne _ _ e] at h
    exact upd_some (hb p hp h)
theorem HvC.updL (h : HvC base ad V st ch r w) (i : Nat) (v : Value) (hi : i ≠ st) (hc : ∀ p ∈ ch, p.1 = i → r p.2 ≠ none) : HvC base ad V st ch (Kq.upd r i v) w := by
  have e1 : Kq.upd r i v st = r st := upd_ne _ _ (fun e => hi e.symm)
  exact ⟨by rw [e1]; exact h.b0, by rw [e1]; exact h.b1, chain_upd h.bl hc⟩
theorem HvC.upd (h : HvC base ad V st ch r w) (i : Nat) (v : Value) (hi : i ≠ st) (hc : ∀ p ∈ ch, p.1 ≠ i) : HvC base ad V st ch (Kq.upd r i v) w :=
  h.updL i v hi fun p hp e => absurd e (hc p hp)
theorem HvC.store (h : HvC base ad V st ch r w) (v : Value) (hr : r st = none) (hc : ∀ p ∈ ch, p.1 = st → r p.2 ≠ none) : HvC base ad V st ch (Kq.upd r st v) (w.setCell ad V) :=
  ⟨fun e => (by rw [upd_same] at e; cases e), fun _ => ⟨w, h.b0 hr, rfl⟩, chain_upd h.bl hc⟩
end
end Go.Kq
