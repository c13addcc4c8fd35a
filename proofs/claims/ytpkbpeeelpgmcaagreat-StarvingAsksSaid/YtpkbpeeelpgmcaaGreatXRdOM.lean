/- Chapter 15: for law Exactly: Starves at a combination that is not wrong; more starves more. · Chapter 15: the document's order of combinations. -/
import Derived.Test.YtpkbpeeelpgmcaaGreatXLibRegInM
import Derived.Test.YtpkbpeeelpgmcaaGreatXLea
import Derived.Test.YtpkbpeeelpgmcaaGreatXCmBM
namespace Go.Proofs.YtpkbpeeelpgmcaaGreat
open Go.RowKit Go.Kq Go.Flow

theorem star_up {N : Net} {l : List Sto} (hok : StoOk N.ch.length l) : UpS l.length (keysN l) (starC N l) := fun a b ha hb hin h => by
  unfold starC at *
  rw [starB_iff] at *
  obtain ⟨i1, i2⟩ := Cb.inB_iff.1 hin
  exact h.mono (dmd_len _ _ _ _) (dmd_len _ _ _ _) fun c => dmd_mono hok (up_nodup ha.s1) (up_nodup ha.k1) i1 i2 c
/-- What Starves returns at a combination that is not wrong. -/
def SvR (b : Bool) (w : World) (e : Ending) (w' : World) : Prop := ∃ A n c, e = .returned (.tuple #[.bool b, .slice A n c, .int .i64 0]) ∧ Kp No w w'
theorem star_of {N : Net} {l : List Sto} {ss ks : List Nat} {w w' : World} {e : Ending} (h : StaR N l ss ks w e w') : SvR (starB N l ss ks) w e w' := by
  obtain ⟨hk, ⟨h1, h2⟩ | ⟨R, v, h1, h2, h3, h4⟩⟩ := h
  · have : starB N l ss ks = false := by
      cases hs : starB N l ss ks
      · rfl
      · exact absurd (starB_iff.1 hs) h1
    rw [this]
    exact ⟨none, 0, 0, h2, hk⟩
  · have : starB N l ss ks = true := starB_iff.2 ⟨R, h1.1, h2⟩
    rw [this]
    obtain ⟨a, c, rfl, _⟩ := own_form h4
    exact ⟨a, _, c, h3, hk⟩
theorem starves_cb (N : Net) (hN : N.Ok) (l : List Sto) (vs : List Sv) (A B C : Option Addr) (ca cb n cc : Nat) (y : Cv) (w : World) (hR : RdNet w A B N) (hS : RdSt w C n vs l) (hy : CvIs w y) (hc : ChkW (nz N) l 0) (hok : CbOk l.length (keysN l) y.c) :
    Calls Tryz.prog 9 #[windV (nz N) A B C ca cb n cc, y.val] w (SvR (starC N l y.c) w) :=
  (Starves_ok N hN l vs A B C y.P y.Q ca cb n cc y.p y.cp y.q y.cq y.c.st y.c.ky w hR hS hy.1 hy.2 (cb_ask hc hok)).mono fun _ _ h => star_of h
def SvU (b : Bool) (_w : World) (u : Value) : Prop := ∃ A n c, u = .tuple #[.bool b, .slice A n c, .int .i64 0]
theorem SvU.no {b : Bool} {u : Value} {w w' : World} (h : SvU b w u) (_k : Kp No w w') : SvU b w' u := h
theorem CvO.caps {w : World} {base : Nat} {x : Cv} (h : CvO w base x) : (x.p ≤ x.cp ∧ x.cp ≤ maxLen) ∧ (x.q ≤ x.cq ∧ x.cq ≤ maxLen) := by
  obtain ⟨_, _, h1, h2, h3, _⟩ := own_form h.a
  obtain ⟨_, _, h4, h5, h6, _⟩ := own_form h.b
  rw [(Value.slice.inj h1).2.2, (Value.slice.inj h4).2.2]
  exact ⟨⟨h2, h3⟩, ⟨h5, h6⟩⟩
/-- A region 'found = found || ..': 0 reads, 9 writes. -/
structure FndW (base : World) (r : Nat → Option Value) (w : World) : Prop where
  kp : Kp No base w
  c9 : r 9 ≠ none → r 8 ≠ none
  c8 : r 8 ≠ none → r 1 ≠ none
  c1 : r 1 ≠ none → r 0 ≠ none
theorem FndW.start (w : World) : FndW w (fun _ => none) w.drew := ⟨Kp.drew _ _, fun e => absurd rfl e, fun e => absurd rfl e, fun e => absurd rfl e⟩
theorem FndW.upd {base w : World} {r : Nat → Option Value} (h : FndW base r w) (i : Nat) (v : Value) (h9 : i = 9 → r 8 ≠ none) (h8 : i = 8 → r 1 ≠ none) (h1 : i = 1 → r 0 ≠ none) : FndW base (Kq.upd r i v) w := by
  have key : ∀ {a b : Nat}, (r a ≠ none → r b ≠ none) → (i = a → r b ≠ none) → Kq.upd r i v a ≠ none → Kq.upd r i v b ≠ none := fun {a b} o hi e => by
    by_cases hb : b = i
    · rw [hb, upd_same]; simp
    · rw [upd_ne _ _ hb]
      by_cases ha : a = i
      · exact hi ha.symm
      · exact o (by rwa [upd_ne _ _ ha] at e)
  exact ⟨h.kp, key h.c9 h9, key h.c8 h8, key h.c1 h1⟩
theorem FndW.call {base w w' : World} {r : Nat → Option Value} (h : FndW base r w) (k : Kp No w w') : FndW base r w' := ⟨h.kp.tr k, h.c9, h.c8, h.c1⟩
theorem FndW.yet {base w : World} {r : Nat → Option Value} (h : FndW base r w) (h0 : r 0 = none) : r 9 = none := by
  cases h9 : r 9 with
  | none => rfl
  | some u => exact absurd h0 (h.c1 (h.c8 (h.c9 (by rw [h9]; simp))))
end Go.Proofs.YtpkbpeeelpgmcaaGreat

namespace Go.Proofs.YtpkbpeeelpgmcaaGreat
open Go.RowKit Go.Kq Go.Flow

set_option maxHeartbeats 4000000 in
set_option maxRecDepth 100000 in
theorem order_q (A B : Option Addr) (n c m d : Nat) (xs ys : List Nat) (w : World) (hR : RdI .i64 w A n (xs.map Int.ofNat)) (hS : RdI .i64 w B m (ys.map Int.ofNat)) (hn : n ≤ 100000) (hm : m ≤ 100000) :
    Calls Tryz.prog 44 #[.slice A n c, .slice B m d] w fun e w' => e = .returned (.int .i64 (cmpL xs ys)) ∧ ∃ q, w' = w.drewN q := by
  have hl : xs.length = n := by have := hR.1; simpa using this
  have hl2 : ys.length = m := by have := hS.1; simpa using this
  have HR := Lib.hid hR
  have HS := Lib.hid hS
  have HL := Lib.hid hl
  have HL2 := Lib.hid hl2
  clear hR hS hl hl2
  go_enter Tryz.func44, Tryz.ntmps44
  go_wp2_with fail
  go_loopw [5] (fun i wr => ∃ k : Nat, k ≤ n ∧ k ≤ m ∧ i = .int .i64 (k : Nat) ∧ cmpL (xs.drop k) (ys.drop k) = cmpL xs ys ∧ ∃ q, wr = w.drewN q) (fun i _ => n - (intOf i).toNat)
  case atStart => exact ⟨0, by omega, by omega, rfl, rfl, 0, rfl⟩
  case round =>
    obtain ⟨k, hk, hkm, rfl, hno, q0, hq0⟩ := hrel
    have HQ := Lib.hid hq0
    have hkp : Kp No w wr := by rw [hq0]; exact Kp.drewN _ _ _
    have HN := Lib.hid hno
    have HK := Lib.hid hkp
    clear hno hkp hq0
    by_cases hlt : k < n
    · by_cases hlm : k < m
      · obtain ⟨x, hx⟩ : ∃ y, xs[k]? = some y := ⟨_, List.getElem?_eq_getElem (by rw [HL.out]; exact hlt)⟩
        obtain ⟨y, hy⟩ : ∃ y, ys[k]? = some y := ⟨_, List.getElem?_eq_getElem (by rw [HL2.out]; exact hlm)⟩
        obtain ⟨b, o, rfl, hb, hc⟩ := (HR.out.no HK.out).2 k _ (map_at hx)
        obtain ⟨b2, o2, rfl, hb2, hc2⟩ := (HS.out.no HK.out).2 k _ (map_at hy)
        have HT := Lib.hid (cmpL_at hx hy)
        clear hx hy
        rcases Nat.lt_trichotomy x y with h1 | h1 | h1
        · have HE := Lib.hid (show cmpL xs ys = -1 by rw [← HN.out, HT.out, if_pos h1])
          have d1 : decide ((x : Int) < (y : Int)) = true := decide_eq_true (by omega)
          have d2 : decide (x < y) = true := decide_eq_true h1
          clear h1
          go_wp2_with fail
          go_quiet (fail)
          go_wp2_with fail
          go_ret
          exact ⟨by rw [HE.out]; rfl, _, by first | (rw [HQ.out, World.drewN_drewN, World.drewN_drewN]) | (rw [HQ.out, World.drewN_drewN])⟩
        · subst h1
          have HE := Lib.hid (show cmpL (xs.drop (k + 1)) (ys.drop (k + 1)) = cmpL xs ys by rw [← HN.out, HT.out, if_neg (by omega), if_neg (by omega)])
          have d1 : decide ((x : Int) < (x : Int)) = false := decide_eq_false (by omega)
          have d2 : decide (x < x) = false := decide_eq_false (by omega)
          go_wp2_with fail
          go_quiet (fail)
          go_wp2_with fail
          go_quiet (fail)
          go_wp2_with fail
          go_roundw
          case rel => exact ⟨k + 1, by omega, by omega, by go_num, HE.out, _, by first | (rw [HQ.out, World.drewN_drewN, World.drewN_drewN]) | (rw [HQ.out, World.drewN_drewN])⟩
          case measure => simp [intOf]; omega
        · have HE := Lib.hid (show cmpL xs ys = 1 by rw [← HN.out, HT.out, if_neg (by omega), if_pos h1])
          have d1 : decide ((x : Int) < (y : Int)) = false := decide_eq_false (by omega)
          have d2 : decide (x < y) = false := decide_eq_false (by omega)
          have d3 : decide ((y : Int) < (x : Int)) = true := decide_eq_true (by omega)
          have d4 : decide (y < x) = true := decide_eq_true h1
          clear h1
          go_wp2_with fail
          go_quiet (fail)
          go_wp2_with fail
          go_quiet (fail)
          go_wp2_with fail
          go_ret
          exact ⟨by rw [HE.out]; rfl, _, by first | (rw [HQ.out, World.drewN_drewN, World.drewN_drewN]) | (rw [HQ.out, World.drewN_drewN])⟩
      · obtain rfl : k = m := by omega
        obtain ⟨x, hx⟩ : ∃ y, xs[k]? = some y := ⟨_, List.getElem?_eq_getElem (by rw [HL.out]; exact hlt)⟩
        have HE := Lib.hid (show cmpL xs ys = 1 by rw [← HN.out]; exact cmpL_right hx (by rw [HL2.out]; exact Nat.le_refl _))
        have hs : (n : Int) - (k : Int) ≥ 1 := by omega
        have e1 : wrap64 ((n : Int) - (k : Int)) = (n : Int) - (k : Int) := IntWalk.wrap64_in _ (by omega)
        clear hx
        go_wp2_with fail
        go_ret
        exact ⟨ret_i64 (by rw [HE.out]; omega), _, HQ.out⟩
    · obtain rfl : k = n := by omega
      have HE := Lib.hid (show cmpL xs ys = if k < m then -1 else 0 by rw [← HN.out, cmpL_left (by rw [HL.out]; exact Nat.le_refl _), HL2.out])
      have e1 : wrap64 ((k : Int) - (m : Int)) = (k : Int) - (m : Int) := IntWalk.wrap64_in _ (by omega)
      go_wp2_with fail
      go_ret
      exact ⟨ret_i64 (by rw [HE.out]; split <;> omega), _, HQ.out⟩
theorem order_any (A B : Option Addr) (n c m d : Nat) (xs ys : List Nat) (w : World) (hR : RdI .i64 w A n (xs.map Int.ofNat)) (hS : RdI .i64 w B m (ys.map Int.ofNat)) (hn : n ≤ 100000) (hm : m ≤ 100000) :
    Calls Tryz.prog 44 #[.slice A n c, .slice B m d] w fun e w' => e = .returned (.int .i64 (cmpL xs ys)) ∧ Kp No w w' := by
  refine (order_q A B n c m d xs ys w hR hS hn hm).mono ?_
  rintro e w' ⟨he, q, rfl⟩
  exact ⟨he, Kp.drewN _ _ _⟩
theorem cmpL_beq (xs ys : List Nat) : (cmpL xs ys == 0) = decide (xs = ys) := by
  rw [Bool.eq_iff_iff, beq_iff_eq, decide_eq_true_eq]
  exact ⟨cmpL_zero, fun h => by rw [h, cmpL_self]⟩
set_option maxHeartbeats 4000000 in
set_option maxRecDepth 100000 in
theorem Less_any (a b : Cv) (w : World) (ha : CvIs w a) (hb : CvIs w b) (h1 : a.p ≤ 100000) (h2 : a.q ≤ 100000) (h3 : b.p ≤ 100000) (h4 : b.q ≤ 100000) :
    Calls Tryz.prog 43 #[a.val, b.val] w fun e w' => e = .returned (.bool (decide (cmpC a.c b.c < 0))) ∧ Kp No w w' := by
  obtain ⟨P, p, cp, Q, q, cq, ⟨xs, xk⟩⟩ := a
  obtain ⟨P', p', cp', Q', q', cq', ⟨ys, yk⟩⟩ := b
  simp only [Cv.val, CvIs] at *
  have l1 : xs.length = p := by have := ha.1.1; simpa using this
  have l2 : xk.length = q := by have := ha.2.1; simpa using this
  have l3 : ys.length = p' := by have := hb.1.1; simpa using this
  have l4 : yk.length = q' := by have := hb.2.1; simpa using this
  have HC := Lib.hid (show cmpC ⟨xs, xk⟩ ⟨ys, yk⟩ = if (p : Int) + q - p' - q' ≠ 0 then (p : Int) + q - p' - q' else if cmpL xs ys ≠ 0 then cmpL xs ys else cmpL xk yk by rw [← l1, ← l2, ← l3, ← l4]; rfl)
  obtain ⟨w1, hw1⟩ : ∃ w1, (w.alloc (.cells #[.slice P p cp, .slice Q q cq] 30)).alloc (.cells #[.slice P' p' cp', .slice Q' q' cq'] 30) = w1 := ⟨_, rfl⟩
  have k1 : Kp No w w1 := by rw [← hw1]; exact (Kp.alloc _ _ _).tr (Kp.alloc _ _ _)
  have hx : w1.heap[w.heap.size]? = some (.cells #[.slice P p cp, .slice Q q cq] 30 (0, 0)) := by rw [← hw1]; exact (Kp.alloc No _ _).heap (heap_alloc_new w _) id
  have hy : w1.heap[w.heap.size + 1]? = some (.cells #[.slice P' p' cp', .slice Q' q' cq'] 30 (0, 0)) := by
    rw [← hw1]
    have := heap_alloc_new (w.alloc (.cells #[.slice P p cp, .slice Q q cq] 30)) (.cells #[.slice P' p' cp', .slice Q' q' cq'] 30)
    simpa using this
  obtain ⟨x0, x1, _, _⟩ := cell_head hx
  obtain ⟨y0, y1, _, _⟩ := cell_head hy
  have HX := Lib.hid hx
  have HY := Lib.hid hy
  have CS := Lib.hid (order_any P P' p cp p' cp' xs ys w1 (ha.1.no k1) (hb.1.no k1) h1 h3)
  have CK := Lib.hid (fun W (k : Kp No w1 W) => order_any Q Q' q cq q' cq' xk yk W ((ha.2.no k1).no k) ((hb.2.no k1).no k) h2 h4)
  have K1 := Lib.hid k1
  clear k1 hx hy ha hb l1 l2 l3 l4
  go_enter Tryz.func43, Tryz.ntmps43
  by_cases hn : (p : Int) + q - p' - q' = 0
  rotate_left
  · have d0 : ((p : Int) + q - p' - q' == 0) = false := by rw [beq_eq_false_iff_ne]; exact hn
    have HE := Lib.hid (show cmpC ⟨xs, xk⟩ ⟨ys, yk⟩ = (p : Int) + q - p' - q' by rw [HC.out, if_pos hn])
    clear hn
    go_wp2_with fail
    go_ret
    exact ⟨by rw [HE.out]; rfl, K1.out⟩
  · have HE := Lib.hid (show cmpC ⟨xs, xk⟩ ⟨ys, yk⟩ = if cmpL xs ys ≠ 0 then cmpL xs ys else cmpL xk yk by rw [HC.out, if_neg (fun h => h hn)])
    have d0 : ((p : Int) + q - p' - q' == 0) = true := by rw [beq_iff_eq]; exact hn
    clear hn
    by_cases hm : cmpL xs ys = 0
    rotate_left
    · have HF := Lib.hid (show cmpC ⟨xs, xk⟩ ⟨ys, yk⟩ = cmpL xs ys by rw [HE.out, if_pos hm])
      generalize cmpL xs ys = v at *
      have d1 : (v == 0) = false := by rw [beq_eq_false_iff_ne]; exact hm
      clear hm
      go_wp2_with fail
      with_reducible refine CS.out.mono ?_
      rintro e w2 ⟨rfl, k2⟩
      go_wp2_with fail
      go_ret
      exact ⟨by rw [HF.out]; rfl, K1.out.tr k2⟩
    · have HF := Lib.hid (show cmpC ⟨xs, xk⟩ ⟨ys, yk⟩ = cmpL xk yk by rw [HE.out, if_neg (fun h => h hm)])
      rw [hm] at CS
      clear hm
      go_wp2_with fail
      with_reducible refine CS.out.mono ?_
      rintro e w2 ⟨rfl, k2⟩
      have HX2 := k2.heap HX.out id
      have HY2 := k2.heap HY.out id
      have C2 := Lib.hid (CK.out _ k2)
      have K2 := Lib.hid (K1.out.tr k2)
      clear x0 x1 y0 y1 k2
      obtain ⟨x0, x1, _, _⟩ := cell_head HX2
      obtain ⟨y0, y1, _, _⟩ := cell_head HY2
      clear HX2 HY2
      go_wp2_with fail
      with_reducible refine C2.out.mono ?_
      rintro e w3 ⟨rfl, k3⟩
      go_wp2_with fail
      go_ret
      exact ⟨by rw [HF.out]; rfl, K2.out.tr k3⟩
/-- The law's same of two lists of numbers. -/
theorem same_at {xs ys : List Nat} {k x y : Nat} (hx : xs[k]? = some x) (hy : ys[k]? = some y) (he : xs = ys) : x = y := by
  subst he
  rw [hx] at hy
  injection hy
set_option maxHeartbeats 4000000 in
set_option maxRecDepth 100000 in
theorem same_any (A B : Option Addr) (n c m d : Nat) (xs ys : List Int) (w : World) (hR : RdI .i64 w A n xs) (hS : RdI .i64 w B m ys) (hn : n ≤ 1000000) (hm : m ≤ 1000000) :
    Calls Tryz.prog 15 #[.slice A n c, .slice B m d] w fun e w' => e = .returned (.bool (decide (xs = ys))) ∧ Kp No w w' := by
  have HR := Lib.hid hR
  have HS := Lib.hid hS
  have HL := Lib.hid hR.1
  have HL2 := Lib.hid hS.1
  clear hR hS
  go_enter Tryz.func15, Tryz.ntmps15
  go_wp2_with fail
  go_loopw [5] (fun i wr => ∃ k : Nat, k ≤ n ∧ k ≤ m ∧ i = .int .i64 (k : Nat) ∧ xs.take k = ys.take k ∧ Kp No w wr) (fun i _ => n - (intOf i).toNat)
  case atStart => exact ⟨0, by omega, by omega, rfl, rfl, Kp.refl _ _⟩
  case round =>
    obtain ⟨k, hk, hkm, rfl, hno, hkp⟩ := hrel
    have HN := Lib.hid hno
    have HK := Lib.hid hkp
    clear hno hkp
    by_cases hlt : k < n
    · by_cases hlm : k < m
      · obtain ⟨x, hx⟩ : ∃ y, xs[k]? = some y := ⟨_, List.getElem?_eq_getElem (by rw [HL.out]; exact hlt)⟩
        obtain ⟨y, hy⟩ : ∃ y, ys[k]? = some y := ⟨_, List.getElem?_eq_getElem (by rw [HL2.out]; exact hlm)⟩
        obtain ⟨b, o, rfl, hb, hc⟩ := (HR.out.no HK.out).2 k _ hx
        obtain ⟨b2, o2, rfl, hb2, hc2⟩ := (HS.out.no HK.out).2 k _ hy
        by_cases h1 : x = y
        · subst h1
          have HT := Lib.hid (show xs.take (k + 1) = ys.take (k + 1) by rw [List.take_add_one, List.take_add_one, hx, hy, HN.out])
          have d1 : (x != x) = false := by simp
          clear hx hy
          go_wp2_with fail
          go_quiet (fail)
          go_wp2_with fail
          go_roundw
          case rel => exact ⟨k + 1, by omega, by omega, by go_num, HT.out, HK.out.tr (Kp.drewN _ _ _)⟩
          case measure => simp [intOf]; omega
        · have HE := Lib.hid (show decide (xs = ys) = false from decide_eq_false fun h => h1 (by subst h; rw [hx] at hy; injection hy))
          have d1 : (x != y) = true := by rw [bne_iff_ne]; exact h1
          clear h1 hx hy
          go_wp2_with fail
          go_quiet (fail)
          go_wp2_with fail
          go_ret
          exact ⟨by rw [HE.out]; rfl, HK.out.tr (Kp.drewN _ _ _)⟩
      · obtain rfl : k = m := by omega
        have HE := Lib.hid (show decide (xs = ys) = false from decide_eq_false fun h => by have := congrArg List.length h; rw [HL.out, HL2.out] at this; omega)
        have d1 : ((n : Int) == (k : Int)) = false := by rw [beq_eq_false_iff_ne]; omega
        go_wp2_with fail
        go_ret
        exact ⟨by rw [HE.out]; rfl, HK.out⟩
    · obtain rfl : k = n := by omega
      by_cases hlm : k = m
      · subst hlm
        have HE := Lib.hid (show decide (xs = ys) = true from decide_eq_true (by
          have h := HN.out
          rwa [List.take_of_length_le (by rw [HL.out]; exact Nat.le_refl _), List.take_of_length_le (by rw [HL2.out]; exact Nat.le_refl _)] at h))
        go_wp2_with fail
        go_ret
        exact ⟨by rw [HE.out]; rfl, HK.out⟩
      · have HE := Lib.hid (show decide (xs = ys) = false from decide_eq_false fun h => by have := congrArg List.length h; rw [HL.out, HL2.out] at this; omega)
        have d1 : ((k : Int) == (m : Int)) = false := by rw [beq_eq_false_iff_ne]; omega
        go_wp2_with fail
        go_ret
        exact ⟨by rw [HE.out]; rfl, HK.out⟩
set_option maxHeartbeats 8000000 in
set_option maxRecDepth 100000 in
theorem Same_any (A B : Option Addr) (n c m d : Nat) (vs us : List Cv) (w : World) (hR : Rd Cv.cells 2 w A n vs) (hS : Rd Cv.cells 2 w B m us) (hv : ∀ x ∈ vs, CvIs w x ∧ x.p ≤ 100000 ∧ x.q ≤ 100000) (hu : ∀ x ∈ us, CvIs w x ∧ x.p ≤ 100000 ∧ x.q ≤ 100000) (hn : n ≤ 1000000) (hm : m ≤ 1000000) :
    Calls Tryz.prog 18 #[.slice A n c, .slice B m d] w fun e w' => e = .returned (.bool (decide (vs.map Cv.c = us.map Cv.c))) ∧ ∃ q, w' = w.drewN q := by
  have HR := Lib.hid hR
  have HS := Lib.hid hS
  have HL := Lib.hid hR.1
  have HL2 := Lib.hid hS.1
  have HV := Lib.hid hv
  have HU := Lib.hid hu
  clear hR hS hv hu
  go_enter Tryz.func18, Tryz.ntmps18
  go_wp2_with fail
  go_loopw [5] (fun i wr => ∃ k : Nat, k ≤ n ∧ k ≤ m ∧ i = .int .i64 (k : Nat) ∧ (vs.map Cv.c).take k = (us.map Cv.c).take k ∧ ∃ q, wr = w.drewN q) (fun i _ => n - (intOf i).toNat)
  case atStart => exact ⟨0, by omega, by omega, rfl, rfl, 0, rfl⟩
  case round =>
    obtain ⟨k, hk, hkm, rfl, hno, q0, hq0⟩ := hrel
    have HN := Lib.hid hno
    have HQ := Lib.hid hq0
    have HK := Lib.hid (show Kp No w wr by rw [hq0]; exact Kp.drewN _ _ _)
    clear hno hq0
    by_cases hlt : k < n
    · by_cases hlm : k < m
      · obtain ⟨x, hx⟩ : ∃ y, vs[k]? = some y := ⟨_, List.getElem?_eq_getElem (by rw [HL.out]; exact hlt)⟩
        obtain ⟨y, hy⟩ : ∃ y, us[k]? = some y := ⟨_, List.getElem?_eq_getElem (by rw [HL2.out]; exact hlm)⟩
        obtain ⟨b, o, rfl, hb, hc⟩ := (HR.out.no HK.out).2 k _ hx
        obtain ⟨b2, o2, rfl, hb2, hc2⟩ := (HS.out.no HK.out).2 k _ hy
        have a0 := hc 0 _ rfl
        have a1 := hc 1 _ rfl
        have e0 := hc2 0 _ rfl
        have e1 := hc2 1 _ rfl
        obtain ⟨vx, px, qx⟩ := HV.out x (List.mem_of_getElem? hx)
        obtain ⟨vy, py, qy⟩ := HU.out y (List.mem_of_getElem? hy)
        have hxc : (vs.map Cv.c)[k]? = some x.c := by rw [List.getElem?_map, hx]; rfl
        have hyc : (us.map Cv.c)[k]? = some y.c := by rw [List.getElem?_map, hy]; rfl
        obtain ⟨P, p, cp, Q, q, cq, ⟨xs, xk⟩⟩ := x
        obtain ⟨P', p', cp', Q', q', cq', ⟨ys, yk⟩⟩ := y
        dsimp only [CvIs] at *
        simp only [Nat.add_zero] at a0 e0
        have vx := vx.1.no HK.out |> fun h => And.intro h (vx.2.no HK.out)
        have vy := vy.1.no HK.out |> fun h => And.intro h (vy.2.no HK.out)
        have O1 := Lib.hid (fun z => order_q P P' p cp p' cp' xs ys (wr.drewN z) (vx.1.no (Kp.drewN _ _ _)) (vy.1.no (Kp.drewN _ _ _)) px py)
        have O2 := Lib.hid (fun z => order_q Q Q' q cq q' cq' xk yk (wr.drewN z) (vx.2.no (Kp.drewN _ _ _)) (vy.2.no (Kp.drewN _ _ _)) qx qy)
        have HX := Lib.hid hxc
        have HY := Lib.hid hyc
        clear hx hy hc hc2 hxc hyc vx vy px py qx qy
        have HEQ := Lib.hid (show cmpL xs ys = 0 → cmpL xk yk = 0 → (⟨xs, xk⟩ : Cb) = ⟨ys, yk⟩ from fun h1 h2 => by rw [cmpL_zero h1, cmpL_zero h2])
        have HNE1 := Lib.hid (show cmpL xs ys ≠ 0 → (⟨xs, xk⟩ : Cb) ≠ ⟨ys, yk⟩ from fun h1 h2 => by injection h2 with h2 _; rw [h2] at h1; exact h1 (cmpL_self _))
        have HNE2 := Lib.hid (show cmpL xk yk ≠ 0 → (⟨xs, xk⟩ : Cb) ≠ ⟨ys, yk⟩ from fun h1 h2 => by injection h2 with _ h2; rw [h2] at h1; exact h1 (cmpL_self _))
        have HBAD := Lib.hid (show (⟨xs, xk⟩ : Cb) ≠ ⟨ys, yk⟩ → decide (vs.map Cv.c = us.map Cv.c) = false from fun h => decide_eq_false fun e => h (by have h1 := HX.out; rw [e, HY.out] at h1; injection h1 with h1; exact h1.symm))
        generalize cmpL xs ys = v1 at *
        generalize cmpL xk yk = v2 at *
        by_cases h1 : v1 = 0
        · by_cases h2 : v2 = 0
          · subst h1 h2
            have HT := Lib.hid (show (vs.map Cv.c).take (k + 1) = (us.map Cv.c).take (k + 1) by rw [List.take_add_one, List.take_add_one, HX.out, HY.out, HN.out, HEQ.out rfl rfl])
            go_wp2_with fail
            go_quiet ((first | (go_at_call 44; with_reducible exact Calls.quiet_of (O1.out _)) | (go_at_call 44; with_reducible exact Calls.quiet_of (O2.out _))))
            go_wp2_with fail
            go_roundw
            case rel => exact ⟨k + 1, by omega, by omega, by go_num, HT.out, _, by rw [HQ.out, World.drewN_drewN]⟩
            case measure => simp [intOf]; omega
          · subst h1
            have HE := Lib.hid (HBAD.out (HNE2.out h2))
            have d2 : (v2 != 0) = true := by rw [bne_iff_ne]; exact h2
            clear h2
            go_wp2_with fail
            go_quiet ((first | (go_at_call 44; with_reducible exact Calls.quiet_of (O1.out _)) | (go_at_call 44; with_reducible exact Calls.quiet_of (O2.out _))))
            go_wp2_with fail
            go_ret
            exact ⟨by rw [HE.out]; rfl, _, by rw [HQ.out, World.drewN_drewN]⟩
        · have HE := Lib.hid (HBAD.out (HNE1.out h1))
          have d1 : (v1 != 0) = true := by rw [bne_iff_ne]; exact h1
          clear h1
          go_wp2_with fail
          go_quiet ((first | (go_at_call 44; with_reducible exact Calls.quiet_of (O1.out _)) | (go_at_call 44; with_reducible exact Calls.quiet_of (O2.out _))))
          go_wp2_with fail
          go_ret
          exact ⟨by rw [HE.out]; rfl, _, by rw [HQ.out, World.drewN_drewN]⟩
      · obtain rfl : k = m := by omega
        have HE := Lib.hid (show decide (vs.map Cv.c = us.map Cv.c) = false from decide_eq_false fun h => by have := congrArg List.length h; rw [List.length_map, List.length_map, HL.out, HL2.out] at this; omega)
        have d1 : ((n : Int) == (k : Int)) = false := by rw [beq_eq_false_iff_ne]; omega
        go_wp2_with fail
        go_ret
        exact ⟨by rw [HE.out]; rfl, _, HQ.out⟩
    · obtain rfl : k = n := by omega
      by_cases hlm : k = m
      · subst hlm
        have HE := Lib.hid (show decide (vs.map Cv.c = us.map Cv.c) = true from decide_eq_true (by
          have h := HN.out
          rwa [List.take_of_length_le (by rw [List.length_map, HL.out]; exact Nat.le_refl _), List.take_of_length_le (by rw [List.length_map, HL2.out]; exact Nat.le_refl _)] at h))
        go_wp2_with fail
        go_ret
        exact ⟨by rw [HE.out]; rfl, _, HQ.out⟩
      · have HE := Lib.hid (show decide (vs.map Cv.c = us.map Cv.c) = false from decide_eq_false fun h => by have := congrArg List.length h; rw [List.length_map, List.length_map, HL.out, HL2.out] at this; omega)
        have d1 : ((k : Int) == (m : Int)) = false := by rw [beq_eq_false_iff_ne]; omega
        go_wp2_with fail
        go_ret
        exact ⟨by rw [HE.out]; rfl, _, HQ.out⟩
end Go.Proofs.YtpkbpeeelpgmcaaGreat
