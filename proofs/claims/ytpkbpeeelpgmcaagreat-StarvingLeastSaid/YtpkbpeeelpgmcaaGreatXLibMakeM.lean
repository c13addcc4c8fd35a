/- Chapter 15: whether indices ascend: the program's rising, the document's Rising. Printed by gen_ris.py. · Chapter 15: the error of a system and a combination: asked. Printed by gen_ask.py. · Rows that make and literals lay: plain facts. No program in sight. -/
import Derived.Test.YtpkbpeeelpgmcaaGreatXWdKM
import Derived.Test.YtpkbpeeelpgmcaaGreatXWdL
import Derived.Test.YtpkbpeeelpgmcaaGreatXLibRowM
namespace Go.Proofs.YtpkbpeeelpgmcaaGreat
open Go.RowKit Go.Kq Go.Flow

def risG (many : Nat) (l : List Int) (i : Nat) : Bool := decide (0 ≤ l.getD i 0) && decide (l.getD i 0 < many) && (decide (i = 0) || decide (l.getD (i - 1) 0 < l.getD i 0))
theorem ris_is (many : Nat) (l : List Int) : risB many l = (List.range l.length).all (risG many l) := rfl
theorem ris_succ (many : Nat) (l : List Int) (k : Nat) : (List.range (k + 1)).all (risG many l) = ((List.range k).all (risG many l) && risG many l k) := by
  rw [List.range_succ, List.all_append]
  simp
theorem ris_bad {many : Nat} {l : List Int} {k : Nat} (h : k < l.length) (hg : risG many l k = false) : risB many l = false := by
  rw [ris_is, List.all_eq_false]
  exact ⟨k, List.mem_range.2 h, by rw [hg]; decide⟩
set_option maxHeartbeats 8000000 in
set_option maxRecDepth 100000 in
theorem rising_any (A : Option Addr) (n c many : Nat) (l : List Int) (w : World) (hR : RdI .i64 w A n l) (hn : n ≤ 9223372036854775807) :
    Calls Tryz.prog 45 #[.slice A n c, .int .i64 (many : Nat)] w fun e w' => e = .returned (.bool (risB many l)) ∧ ∃ q, w' = w.drewN q := by
  have HR := Lib.hid hR
  have HL := Lib.hid hR.1
  have HB := Lib.hid (fun k (h : k < l.length) => ris_bad (many := many) h)
  clear hR
  go_enter Tryz.func45, Tryz.ntmps45
  go_wp2_with fail
  go_loopw [9] (fun i wr => ∃ k : Nat, k ≤ n ∧ i = .int .i64 (k : Nat) ∧ (List.range k).all (risG many l) = true ∧ ∃ q, wr = w.drewN q) (fun i _ => n - (intOf i).toNat)
  case atStart => exact ⟨0, by omega, rfl, rfl, 0, rfl⟩
  case round =>
    obtain ⟨k, hk, rfl, hno, q, hq⟩ := hrel
    have HN := Lib.hid hno
    have HQ := Lib.hid hq
    have hkp : Kp No w wr := by rw [hq]; exact Kp.drewN _ _ _
    clear hno hq
    by_cases hlt : k < n
    · obtain ⟨x, hx⟩ : ∃ x, l[k]? = some x := ⟨_, List.getElem?_eq_getElem (by rw [HL.out]; exact hlt)⟩
      obtain ⟨b, o, rfl, hb, hc⟩ := (HR.out.no hkp).2 k x hx
      have HT := Lib.hid (ris_succ many l k)
      have HGE := Lib.hid (show risG many l k = (decide (0 ≤ x) && decide (x < many) && (decide (k = 0) || decide (l.getD (k - 1) 0 < x))) by unfold risG; rw [List.getD_eq_getElem?_getD (l := l) (i := k), hx]; rfl)
      have HBB := Lib.hid (HB.out k (by rw [HL.out]; exact hlt))
      clear hx
      by_cases h1 : x < 0
      · have d1 : decide (x < 0) = true := by simp [h1]
        have HEE := Lib.hid (show risB many l = false from HBB.out (by rw [HGE.out]; simp; omega))
        clear hkp h1
        go_wp2_with fail
        go_ret
        exact ⟨ret_bool HEE.out.symm, q, HQ.out⟩
      · have d1 : decide (x < 0) = false := by simp; omega
        by_cases h2 : (many : Int) ≤ x
        · have d2 : decide ((many : Int) ≤ x) = true := by simp [h2]
          have HEE := Lib.hid (show risB many l = false from HBB.out (by rw [HGE.out]; simp; omega))
          clear hkp h1 h2
          go_wp2_with fail
          go_ret
          exact ⟨ret_bool HEE.out.symm, q, HQ.out⟩
        · have d2 : decide ((many : Int) ≤ x) = false := by simp; omega
          by_cases h0 : 0 < k
          rotate_left
          · have HG := Lib.hid (show risG many l k = true by rw [HGE.out]; simp; omega)
            have d0 : decide ((0 : Int) < (k : Int)) = false := by simp; omega
            clear hkp h1 h2
            go_wp2_with fail
            go_roundw
            case rel => exact ⟨k + 1, by omega, by go_num, by rw [HT.out, HN.out, HG.out]; rfl, q, HQ.out⟩
            case measure => simp [intOf]; omega
          · obtain ⟨y, hy⟩ : ∃ y, l[k - 1]? = some y := ⟨_, List.getElem?_eq_getElem (by rw [HL.out]; omega)⟩
            obtain ⟨b', o', e', _, hc'⟩ := (HR.out.no hkp).2 (k - 1) y hy
            injection e' with e'
            injection e' with e1 e2
            subst e1 e2
            have HY := Lib.hid (show l.getD (k - 1) 0 = y by rw [List.getD_eq_getElem?_getD, hy]; rfl)
            obtain ⟨j, hjk⟩ : ∃ j, j = k - 1 := ⟨k - 1, rfl⟩
            rw [← hjk] at hc' HY HGE
            have hw : IntKind.i64.wrap ((k : Int) - 1) = (j : Int) := by rw [IntKind.wrap_i64]; omega
            have hj : (k : Int) - 1 = (j : Int) := by omega
            have hjn : j < n := by omega
            clear hjk
            clear hy hkp
            have d0 : decide ((0 : Int) < (k : Int)) = true := by simp; omega
            by_cases h3 : x ≤ y
            · have d3 : decide (x ≤ y) = true := by simp [h3]
              have HEE := Lib.hid (show risB many l = false from HBB.out (by rw [HGE.out, HY.out]; simp; omega))
              clear h1 h2 h3
              go_wp2_with fail
              go_ret
              exact ⟨ret_bool HEE.out.symm, q, HQ.out⟩
            · have d3 : decide (x ≤ y) = false := by simp; omega
              have HG := Lib.hid (show risG many l k = true by rw [HGE.out, HY.out]; simp; omega)
              clear h1 h2 h3
              go_wp2_with fail
              go_roundw
              case rel => exact ⟨k + 1, by omega, by go_num, by rw [HT.out, HN.out, HG.out]; rfl, q, HQ.out⟩
              case measure => simp [intOf]; omega
    · obtain rfl : k = n := by omega
      have HEE := Lib.hid (show risB many l = true by rw [ris_is, HL.out]; exact HN.out)
      clear hkp
      go_wp2_with fail
      go_ret
      exact ⟨ret_bool HEE.out.symm, q, HQ.out⟩
end Go.Proofs.YtpkbpeeelpgmcaaGreat

namespace Go.Proofs.YtpkbpeeelpgmcaaGreat
open Go.RowKit Go.Kq Go.Flow

/-- A combination as a value. -/
def comboV (P : Option Addr) (p cp : Nat) (Q : Option Addr) (q cq : Nat) : Value := .agg #[.slice P p cp, .slice Q q cq]
def AskW (Z : Nz) (l : List Sto) (S K : List Int) (c : Int) : Prop := (ChkW Z l c ∧ c ≠ 0) ∨ (ChkW Z l 0 ∧ c = if risB l.length S && risB (keysN l) K then 0 else 2)
theorem AskW.uniq {Z : Nz} {l : List Sto} {S K : List Int} {c d : Int} (h : AskW Z l S K c) (k : AskW Z l S K d) : c = d := by
  rcases h with ⟨h1, h2⟩ | ⟨h1, h2⟩ <;> rcases k with ⟨k1, k2⟩ | ⟨k1, k2⟩
  · exact h1.uniq k1
  · exact absurd (h1.uniq k1) h2
  · exact absurd (k1.uniq h1) k2
  · rw [h2, k2]
set_option maxHeartbeats 8000000 in
set_option maxRecDepth 100000 in
theorem asked_any (Z : Nz) (l : List Sto) (vs : List Sv) (A B C P Q : Option Addr) (ca cb n cc p cp q cq : Nat) (S K : List Int) (w : World) (hR : RdNz w A B Z) (hS : RdSt w C n vs l) (hP : RdI .i64 w P p S) (hQ : RdI .i64 w Q q K) (hp : p ≤ 9223372036854775807) (hq : q ≤ 9223372036854775807) :
    Calls Tryz.prog 20 #[windV Z A B C ca cb n cc, comboV P p cp Q q cq] w fun e w' => ∃ c, e = .returned (.int .i64 c) ∧ AskW Z l S K c ∧ Kp No w w' := by
  unfold comboV
  obtain ⟨g, hg⟩ : ∃ g, g = w.heap.size := ⟨_, rfl⟩
  obtain ⟨w0, hw0⟩ : ∃ w0, (w.alloc (.cells #[.int .i64 Z.n, .slice A Z.tr.length ca, .slice B Z.ch.length cb, .slice C n cc] 28)).alloc (.cells #[.slice P p cp, .slice Q q cq] 30) = w0 := ⟨_, rfl⟩
  have hk0 : Kp No w w0 := by rw [← hw0]; exact (Kp.alloc _ _ _).tr (Kp.alloc _ _ _)
  have HBX := Lib.hid (show w0.heap[g]? = some (.cells #[.int .i64 Z.n, .slice A Z.tr.length ca, .slice B Z.ch.length cb, .slice C n cc] 28 (0, 0)) by rw [← hw0, hg]; exact (Kp.alloc No _ _).heap (heap_alloc_new w _) id)
  have HBC := Lib.hid (show w0.heap[g + 1]? = some (.cells #[.slice P p cp, .slice Q q cq] 30 (0, 0)) by
    rw [← hw0, hg]
    have := heap_alloc_new (w.alloc (.cells #[.int .i64 Z.n, .slice A Z.tr.length ca, .slice B Z.ch.length cb, .slice C n cc] 28)) (.cells #[.slice P p cp, .slice Q q cq] 30)
    simpa using this)
  have CK := Wcheck_any Z l vs A B C ca cb n cc w0 (hR.no hk0) (hS.no hk0)
  unfold windV at CK ⊢
  replace CK := Lib.hid CK
  have HK := Lib.hid hk0
  have HS := Lib.hid (hS.no hk0)
  have HL := Lib.hid hS.len
  have HP := Lib.hid (hP.no hk0)
  have HQ := Lib.hid (hQ.no hk0)
  clear hk0 hR hS hP hQ
  obtain ⟨p0, p1, p2, p3⟩ := four_at HBX.out
  obtain ⟨q0, q1, _, _⟩ := cell_head HBC.out
  subst hg
  go_enter Tryz.func20, Tryz.ntmps20
  go_wp2_with fail
  with_reducible refine CK.out.mono ?_
  rintro e w1 ⟨c0, rfl, hc0, k1⟩
  have K1 := Lib.hid (HK.out.tr k1)
  have S1 := Lib.hid (HS.out.no k1)
  have B1 := Lib.hid (k1.heap HBX.out id)
  have C1 := Lib.hid (k1.heap HBC.out id)
  have HC := Lib.hid hc0
  have R1 := Lib.hid (fun W (k : Kp No w1 W) => rising_any P p cp n S W ((HP.out.no k1).no k) hp)
  have R2 := fun KK W (k : Kp No w1 W) => rising_any Q q cq KK K W ((HQ.out.no k1).no k) hq
  have KD := Lib.hid (fun z => Kp.drewN No w1 z)
  clear k1 CK p0 p1 p2 p3 q0 q1 hc0 hp hq
  obtain ⟨p0, p1, p2, p3⟩ := four_at B1.out
  obtain ⟨q0, q1, _, _⟩ := cell_head C1.out
  by_cases hc : c0 = 0
  rotate_left
  · have d1 : (c0 != 0) = true := by rw [bne_iff_ne]; exact hc
    have d2 : (c0 == 0) = false := by rw [beq_eq_false_iff_ne]; exact hc
    have HZ := Lib.hid hc
    clear hc
    go_wp2_with fail

    go_ret
    exact ⟨c0, rfl, .inl ⟨HC.out, HZ.out⟩, K1.out⟩
  subst hc
  have OK := Lib.hid (fun c (h : c = if risB l.length S && risB (keysN l) K then 0 else 2) => show AskW Z l S K c from .inr ⟨HC.out, h⟩)
  rw [HL.out] at OK
  have hok : StoOk Z.ch.length l := by
    rcases HC.out with ⟨_, h⟩ | ⟨_, h⟩
    · exact absurd rfl h
    · exact stE_ok h.symm
  have hl1 := hok.l1
  rw [HL.out] at hl1
  obtain ⟨s0, hs0⟩ : ∃ s, l[0]? = some s := ⟨_, List.getElem?_eq_getElem (by rw [HL.out]; omega)⟩
  obtain ⟨v0, b, o, hv0, rfl, hb, x0, x1, is0⟩ := S1.out.at_ hs0
  have HK0 := Lib.hid (show keysN l = v0.n by unfold keysN; rw [List.getD_eq_getElem?_getD, hs0]; exact is0.2.1.symm)
  rw [Nat.zero_mul, Nat.add_zero] at x0 x1
  obtain ⟨ch0, A0, KK, c0⟩ := v0
  dsimp only at x0 x1 HK0
  rw [HK0.out] at OK
  replace R2 := Lib.hid (R2 KK)
  clear is0 hs0 hv0 hok
  cases hr1 : risB n S
  · rw [hr1] at R1 OK
    have HO := Lib.hid (OK.out 2 rfl)
    clear hr1 R2 OK
    go_wp2_with fail
    go_quiet ((go_at_call 45; with_reducible exact Calls.quiet_of (R1.out _ (KD.out _))))
    go_wp2_with fail
    go_ret
    exact ⟨2, rfl, HO.out, K1.out.tr (Kp.drewN _ _ _)⟩
  · rw [hr1] at R1 OK
    clear hr1
    cases hr2 : risB KK K
    · rw [hr2] at R2 OK
      have HO := Lib.hid (OK.out 2 rfl)
      clear hr2 OK
      go_wp2_with fail
      go_quiet ((first | (go_at_call 45; with_reducible exact Calls.quiet_of (R1.out _ (KD.out _))) | (go_at_call 45; with_reducible exact Calls.quiet_of (R2.out _ (KD.out _)))))
      go_wp2_with fail
      go_ret
      exact ⟨2, rfl, HO.out, K1.out.tr (Kp.drewN _ _ _)⟩
    · rw [hr2] at R2 OK
      have HO := Lib.hid (OK.out 0 rfl)
      clear hr2 OK
      go_wp2_with fail
      go_quiet ((first | (go_at_call 45; with_reducible exact Calls.quiet_of (R1.out _ (KD.out _))) | (go_at_call 45; with_reducible exact Calls.quiet_of (R2.out _ (KD.out _)))))
      go_wp2_with fail
      go_ret
      exact ⟨0, rfl, HO.out, K1.out.tr (Kp.drewN _ _ _)⟩
end Go.Proofs.YtpkbpeeelpgmcaaGreat

namespace Go.Kq
open Go.RowKit

theorem made_flat {α : Type} (f : α → List Value) (x : α) (z : Array Value) (s n : Nat) (hz : z.size = s) (hs : 0 < s) (hf : f x = z.toList) : madeCells z (n * s) = ((List.replicate n x).flatMap f).toArray := by
  have hfl : ∀ y : Unit, ((fun _ : Unit => z.toList) y).length = s := fun _ => by simpa using hz
  have e : (List.replicate n x).flatMap f = (List.replicate n ()).flatMap fun _ => z.toList := by
    rw [List.flatMap_replicate, List.flatMap_replicate, hf]
  rw [e]
  apply Array.ext
  · rw [size_madeCells, List.size_toArray, flat_len hfl, List.length_replicate]
  · intro i h1 h2
    rw [size_madeCells] at h1
    have hd : i / s < n := Nat.div_lt_of_lt_mul (by rw [Nat.mul_comm]; exact h1)
    have hm : i % s < z.size := by rw [hz]; exact Nat.mod_lt _ hs
    have := flat_at hfl (List.replicate n ()) (i / s) () (i % s) z[i % s] (by simp [hd]) (by simp [hm])
    rw [Nat.div_add_mod'] at this
    obtain ⟨h3, h4⟩ := List.getElem?_eq_some_iff.1 this
    simp only [List.getElem_toArray]
    rw [h4]
    have hm' : z[i % s]! = z[i % s] := getElem!_pos z (i % s) hm
    simp [madeCells, hz, hm']
theorem own_made (w : World) {base e s n : Nat} {xs : List Value} (hl : xs.length = n * s) (hb : base ≤ w.heap.size) (hn : n ≤ maxLen) : (w.alloc (.cells xs.toArray e)).ownsRow base e s (.slice (some ⟨w.heap.size, 0, none⟩) n n) n xs :=
  ⟨hl, .inr ⟨_, n, xs.toArray, rfl, hb, heap_alloc_new w _, Nat.le_refl _, hn, by simpa using hl, by rw [← hl]; simp⟩⟩
theorem run_make_flat {P : Program} (w : World) {α : Type} (f : α → List Value) (x : α) (t e : TypeId) (i : TypeInfo) (z : Value) (s bytes n : Nat) (ht : P.underlying t = some (.slice e)) (hi : P.info? e = some i) (hz : i.zero = some z) (hsz : i.size = s) (hby : i.bytes = bytes) (hs : 0 < s) (hzs : z.cells.size = s) (hf : f x = z.cells.toList) (hb : bytes * n ≤ 281474976710656) (hn : n ≤ 9223372036854775807) :
    (Instr.makeSlice t (.int .i64 (n : Nat)) (.int .i64 (n : Nat))).run P w = .ok (.slice (some ⟨w.heap.size, 0, none⟩) n n) (w.alloc (.cells ((List.replicate n x).flatMap f).toArray e)) := by
  have h := run_make (P := P) w t e i z ht hi hz .i64 .i64 n n (by omega) (by omega) (by rw [hby, ← Int.natCast_mul]; omega) (by omega)
  rw [h, hsz, show (n : Int).toNat = n by omega, made_flat f x z.cells s n hzs hs hf]
end Go.Kq
