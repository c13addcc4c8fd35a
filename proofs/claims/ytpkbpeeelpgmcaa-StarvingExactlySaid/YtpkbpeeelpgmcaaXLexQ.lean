/- Chapter 15: for law Exactly: Starves at a combination that is not wrong; more starves more. -/
import Derived.Test.YtpkbpeeelpgmcaaXLes
import Derived.Test.YtpkbpeeelpgmcaaXLprPM
import Derived.Test.YtpkbpeeelpgmcaaXLea
namespace Go.Proofs.Ytpkbpeeelpgmcaa
open Go.RowKit Go.Kq Go.Flow

theorem star_up {N : Net} {l : List Sto} (hok : StoOk N.ch.length l) : UpS l.length (keysN l) (starC N l) := fun a b ha hb hin h => by
  unfold starC at *
  rw [starB_iff] at *
  obtain ⟨i1, i2⟩ := Cb.inB_iff.1 hin
  exact h.mono (dmd_len _ _ _ _) (dmd_len _ _ _ _) fun c => dmd_mono hok (up_nodup ha.s1) (up_nodup ha.k1) i1 i2 c
/-- What Starves returns at a combination that is not wrong. -/
def SvR (b : Bool) (w : World) (e : Ending) (w' : World) : Prop := ∃ A n c, e = .returned (.tuple #[.bool b, .slice A n c, .int .i64 0]) ∧ Kp No w w'
theorem star_of {N : Net} {l : List Sto} {ss ks : List Nat} {w w' : World} {e : Ending} (h : StaR N l ss ks w e w') : SvR (starB N l ss ks) w e w' := by
  obtain ⟨hk, ⟨h1, h2⟩ | ⟨R, v, h1, h2, h3, h4⟩⟩ := h
  · have : starB N l ss ks = false := by
      cases hs : starB N l ss ks
      · rfl
      · exact absurd (starB_iff.1 hs) h1
    rw [this]
    exact ⟨none, 0, 0, h2, hk⟩
  · have : starB N l ss ks = true := starB_iff.2 ⟨R, h1.1, h2⟩
    rw [this]
    obtain ⟨a, c, rfl, _⟩ := own_form h4
    exact ⟨a, _, c, h3, hk⟩
theorem starves_cb (N : Net) (hN : N.Ok) (l : List Sto) (vs : List Sv) (A B C : Option Addr) (ca cb n cc : Nat) (y : Cv) (w : World) (hR : RdNet w A B N) (hS : RdSt w C n vs l) (hy : CvIs w y) (hc : ChkW (nz N) l 0) (hok : CbOk l.length (keysN l) y.c) :
    Calls Try.prog 9 #[windV (nz N) A B C ca cb n cc, y.val] w (SvR (starC N l y.c) w) :=
  (Starves_ok N hN l vs A B C y.P y.Q ca cb n cc y.p y.cp y.q y.cq y.c.st y.c.ky w hR hS hy.1 hy.2 (cb_ask hc hok)).mono fun _ _ h => star_of h
def SvU (b : Bool) (_w : World) (u : Value) : Prop := ∃ A n c, u = .tuple #[.bool b, .slice A n c, .int .i64 0]
theorem SvU.no {b : Bool} {u : Value} {w w' : World} (h : SvU b w u) (_k : Kp No w w') : SvU b w' u := h
theorem CvO.caps {w : World} {base : Nat} {x : Cv} (h : CvO w base x) : (x.p ≤ x.cp ∧ x.cp ≤ maxLen) ∧ (x.q ≤ x.cq ∧ x.cq ≤ maxLen) := by
  obtain ⟨_, _, h1, h2, h3, _⟩ := own_form h.a
  obtain ⟨_, _, h4, h5, h6, _⟩ := own_form h.b
  rw [(Value.slice.inj h1).2.2, (Value.slice.inj h4).2.2]
  exact ⟨⟨h2, h3⟩, ⟨h5, h6⟩⟩
/-- A region 'found = found || ..': 0 reads, 9 writes. -/
structure FndW (base : World) (r : Nat → Option Value) (w : World) : Prop where
  kp : Kp No base w
  c9 : r 9 ≠ none → r 8 ≠ none
  c8 : r 8 ≠ none → r 1 ≠ none
  c1 : r 1 ≠ none → r 0 ≠ none
theorem FndW.start (w : World) : FndW w (fun _ => none) w.drew := ⟨Kp.drew _ _, fun e => absurd rfl e, fun e => absurd rfl e, fun e => absurd rfl e⟩
theorem FndW.upd {base w : World} {r : Nat → Option Value} (h : FndW base r w) (i : Nat) (v : Value) (h9 : i = 9 → r 8 ≠ none) (h8 : i = 8 → r 1 ≠ none) (h1 : i = 1 → r 0 ≠ none) : FndW base (Kq.upd r i v) w := by
  have key : ∀ {a b : Nat}, (r a ≠ none → r b ≠ none) → (i = a → r b ≠ none) → Kq.upd r i v a ≠ none → Kq.upd r i v b ≠ none := fun {a b} o hi e => by
    by_cases hb : b = i
    · rw [hb, upd_same]; simp
    · rw [upd_ne _ _ hb]
      by_cases ha : a = i
      · exact hi ha.symm
      · exact o (by rwa [upd_ne _ _ ha] at e)
  exact ⟨h.kp, key h.c9 h9, key h.c8 h8, key h.c1 h1⟩
theorem FndW.call {base w w' : World} {r : Nat → Option Value} (h : FndW base r w) (k : Kp No w w') : FndW base r w' := ⟨h.kp.tr k, h.c9, h.c8, h.c1⟩
theorem FndW.yet {base w : World} {r : Nat → Option Value} (h : FndW base r w) (h0 : r 0 = none) : r 9 = none := by
  cases h9 : r 9 with
  | none => rfl
  | some u => exact absurd h0 (h.c1 (h.c8 (h.c9 (by rw [h9]; simp))))
end Go.Proofs.Ytpkbpeeelpgmcaa
