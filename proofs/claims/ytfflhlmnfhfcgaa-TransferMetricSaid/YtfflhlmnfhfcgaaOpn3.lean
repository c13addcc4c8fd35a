/- Chapter 33: three lists of voices that came in. -/
import Derived.Test.YtfflhlmnfhfcgaaOpn
import Derived.OpenShut
namespace Go.Proofs.Ytfflhlmnfhfcgaa
open Go.ChangeShapes Go.WideShapes Go.RowKit Go.Deep Go.Kq
section
variable {H : Type} {enc : TypeId × Value → H} {W : World} {base : Nat} {held : Bool}
theorem open_vlist {c : Value} {fuel : Nat} {y : DataW H × List MemPlace} (h : DataW.trod enc Try.prog W base (fun _ => true) held fuel 22 [c] = some y) : ∃ a len cap vs, c = .slice a len cap ∧ len ≤ cap ∧ cap ≤ maxLen ∧ RdV W a len vs := by
  have h' := h
  obtain ⟨d, p⟩ := y
  rcases open_slice Try.underlying22 h with ⟨hcs, _⟩ | ⟨x, l, cc, m, n, D, Pl, hcs, _, hl, hm, _, _, _⟩
  · simp at hcs
    subst hcs
    exact ⟨none, 0, 0, [], rfl, Nat.le_refl _, by unfold maxLen; omega, rfl, fun i v h => by simp at h⟩
  · simp at hcs
    subst hcs
    obtain ⟨vs, hvs⟩ := open_voices (enc := enc) (W := W) (base := base) (held := held) (d := d) (p := p) ⟨fuel, by simpa [Value.cells] using h'⟩
    exact ⟨_, _, _, vs, rfl, hl, hm, hvs⟩
theorem open_u8 {n : Int} {d : DataW H} {p : List MemPlace} {spare : Nat → Bool} (h : DataW.Trod enc Try.prog W base spare held 5 (.int .u8 n) d p) : ∃ y : Nat, n = (y : Nat) ∧ y < 256 := by
  obtain ⟨fuel, hf⟩ := h
  obtain ⟨m, hc, _, hw⟩ := DataW.trod_int Try.underlying5 hf
  simp [Value.cells] at hc
  subst hc
  have hb := bounds_u8 hw
  exact ⟨n.toNat, (Int.toNat_of_nonneg hb.1).symm, by omega⟩
theorem c46 : Try.prog.cellsOf 46 = 3 := by kernel_rfl
theorem c22 : Try.prog.cellsOf 22 = 1 := by kernel_rfl
set_option maxRecDepth 100000 in
theorem open_three {v : Value} {d : DataW H} {p : List MemPlace} {r : Reach} {b0 : Nat} (hv : Value.okWide Try.prog W r b0 46 v) (h : DataW.Trod enc Try.prog W base (fun _ => true) held 46 v d p) :
    ∃ A n ca a B m cb b C r cc c, v = .agg #[.slice A n ca, .slice B m cb, .slice C r cc] ∧ RdV W A n a ∧ RdV W B m b ∧ RdV W C r c ∧ m ≤ cb ∧ cb ≤ maxLen := by
  simp only [Value.okWide, Try.underlying46] at hv
  obtain ⟨cs, rfl, hsz, _⟩ := hv
  rw [c46] at hsz
  obtain ⟨fuel, hf⟩ := h
  obtain ⟨xs, m, _, _, hlen, hxl, hel⟩ := DataW.trod_array Try.underlying46 hf
  rw [c22] at hel
  obtain ⟨l⟩ := cs
  match l, hsz with
  | [q0, q1, q2], _ =>
    have e0 := hel 0 (by omega)
    have e1 := hel 1 (by omega)
    have e2 := hel 2 (by omega)
    match xs, hxl with
    | [y0, y1, y2], _ =>
      obtain ⟨A, n, ca, a, rfl, _, _, ha⟩ := open_vlist (by simpa [Value.cells] using e0)
      obtain ⟨B, m, cb, b, rfl, h1, h2, hb⟩ := open_vlist (by simpa [Value.cells] using e1)
      obtain ⟨C, r, cc, c, rfl, _, _, hc⟩ := open_vlist (by simpa [Value.cells] using e2)
      exact ⟨A, n, ca, a, B, m, cb, b, C, r, cc, c, rfl, ha, hb, hc, h1, h2⟩
end
end Go.Proofs.Ytfflhlmnfhfcgaa
