/- The network of the examples: plain laws. No program in sight. -/
import Derived.Test.YtjjecadfcndkaaaSup2
namespace Go.Flow

def exN : Net := ⟨4, [⟨0, 1, 5, 6⟩, ⟨0, 2, 4, 4⟩, ⟨1, 3, 3, 9⟩, ⟨2, 3, 2, 2⟩, ⟨1, 2, 1, 1⟩], [2, 3]⟩
theorem ex_ok : exN.Ok := ⟨by decide, by decide, by decide, by decide, fun t ht => by
  simp only [exN, List.mem_cons, List.not_mem_nil, or_false] at ht
  rcases ht with rfl | rfl | rfl | rfl | rfl <;> decide, fun c hc => by
  simp only [exN, List.mem_cons, List.not_mem_nil, or_false] at hc
  rcases hc with rfl | rfl <;> decide, by decide⟩
def st2 (v : Nat) : Bool := decide (v < 2)
def st1 (v : Nat) : Bool := decide (v < 1)
def st3 (v : Nat) : Bool := decide (v < 3)
theorem ex_out (h : Bool) (S : Nat → Bool) : exN.out h S = (if S 0 && !S 1 then (if h then 6 else 5) else 0) + ((if S 0 && !S 2 then 4 else 0) + ((if S 1 && !S 3 then (if h then 9 else 3) else 0) + ((if S 2 && !S 3 then 2 else 0) + (if S 1 && !S 2 then 1 else 0)))) := by
  cases h <;> simp [Net.out, exN, cut, tp, Tk.cap]
theorem ex_wt (h : Bool) (a b : Int) (S : Nat → Bool) : exN.wt h [a, b] S = exN.out h S + ((if S 2 then a else 0) + (if S 3 then b else 0)) := by
  simp [Net.wt, exN, held]
theorem ex_a1 {S : Nat → Bool} (h : exN.A1 S) : S 0 = true ∧ S 4 = false ∧ S 2 = false ∧ S 3 = false := ⟨h.1.1, h.1.2, h.2 2 (by simp [exN]), h.2 3 (by simp [exN])⟩
theorem ex_cut : Min exN.A1 (exN.out false) st2 ∧ exN.out false st2 = 8 := by
  have h8 : exN.out false st2 = 8 := by rw [ex_out]; decide
  refine ⟨⟨⟨⟨by decide, by decide⟩, fun c hc => by
    simp only [exN, List.mem_cons, List.not_mem_nil, or_false] at hc
    rcases hc with rfl | rfl <;> decide⟩, fun S hS => ?_⟩, h8⟩
  obtain ⟨s0, _, s2, s3⟩ := ex_a1 hS
  rw [h8, ex_out, s0, s2, s3]
  cases s1 : S 1
  · simp
  · refine ⟨by simp, fun _ v hv => ?_⟩
    have : v < 2 := by simpa [st2] using hv
    match v, this with
    | 0, _ => exact s0
    | 1, _ => exact s1
theorem ex_high : Min exN.A1 (exN.out true) st1 ∧ exN.out true st1 = 10 := by
  have h8 : exN.out true st1 = 10 := by rw [ex_out]; decide
  refine ⟨⟨⟨⟨by decide, by decide⟩, fun c hc => by
    simp only [exN, List.mem_cons, List.not_mem_nil, or_false] at hc
    rcases hc with rfl | rfl <;> decide⟩, fun S hS => ?_⟩, h8⟩
  obtain ⟨s0, _, s2, s3⟩ := ex_a1 hS
  rw [h8, ex_out, s0, s2, s3]
  have hv : ∀ v, st1 v = true → S v = true := fun v hv => by
    have : v < 1 := by simpa [st1] using hv
    obtain rfl : v = 0 := by omega
    exact s0
  cases s1 : S 1
  · exact ⟨by simp, fun _ => hv⟩
  · simp
theorem ex_feas {F : List Int} {a b : Int} (h : exN.Feas false [a, b] F) : ∃ g0 g1 g2 g3 g4 : Int, F = [g0, g1, g2, g3, g4] ∧ (0 ≤ g0 ∧ g0 ≤ 5) ∧ (0 ≤ g1 ∧ g1 ≤ 4) ∧ (0 ≤ g2 ∧ g2 ≤ 3) ∧ (0 ≤ g3 ∧ g3 ≤ 2) ∧ (0 ≤ g4 ∧ g4 ≤ 1) ∧ g0 = g2 + g4 ∧ g1 + g4 = g3 + a ∧ g2 + g3 = b := by
  have hl : F.length = 5 := h.len
  match F, hl with
  | [g0, g1, g2, g3, g4], _ =>
    have c0 := h.fit ⟨0, 1, 5, g0, false⟩ (by simp [pf, exN, Tk.cap])
    have c1 := h.fit ⟨0, 2, 4, g1, false⟩ (by simp [pf, exN, Tk.cap])
    have c2 := h.fit ⟨1, 3, 3, g2, false⟩ (by simp [pf, exN, Tk.cap])
    have c3 := h.fit ⟨2, 3, 2, g3, false⟩ (by simp [pf, exN, Tk.cap])
    have c4 := h.fit ⟨1, 2, 1, g4, false⟩ (by simp [pf, exN, Tk.cap])
    have d1 := h.dv (fun v => if v = 1 then 1 else 0)
    have d2 := h.dv (fun v => if v = 2 then 1 else 0)
    have d3 := h.dv (fun v => if v = 3 then 1 else 0)
    simp [pf, exN, Flow.dv, dem] at d1 d2 d3
    simp only at c0 c1 c2 c3 c4
    exact ⟨g0, g1, g2, g3, g4, rfl, c0, c1, c2, c3, c4, by omega, by omega, by omega⟩
theorem feas_mk {a b g0 g1 g2 g3 g4 : Int} (c0 : 0 ≤ g0 ∧ g0 ≤ 5) (c1 : 0 ≤ g1 ∧ g1 ≤ 4) (c2 : 0 ≤ g2 ∧ g2 ≤ 3) (c3 : 0 ≤ g3 ∧ g3 ≤ 2) (c4 : 0 ≤ g4 ∧ g4 ≤ 1) (h1 : g0 = g2 + g4) (h2 : a = g1 + g4 - g3) (h3 : b = g2 + g3) : exN.Feas false [a, b] [g0, g1, g2, g3, g4] := by
  refine ⟨rfl, fun p hp => ?_, fun φ => ?_⟩
  · simp [pf, exN, Tk.cap] at hp
    rcases hp with rfl | rfl | rfl | rfl | rfl <;> assumption
  · subst h1 h2 h3
    simp only [pf, exN, List.zipWith_cons_cons, List.zipWith_nil_left, Flow.dv, dem, List.zip_cons_cons, List.zip_nil_left, Int.add_mul, Int.sub_mul, Int.mul_sub]
    omega
theorem ex_least : exN.Least false [2, 5] [3, 4, 3, 2, 0] := by
  refine ⟨feas_mk (by omega) (by omega) (by omega) (by omega) (by omega) (by omega) (by omega) (by omega), fun k G hG hs f g hf hg => ?_⟩
  obtain ⟨g0, g1, g2, g3, g4, rfl, _, _, _, _, _, _, _, _⟩ := ex_feas hG
  match k with
  | 0 =>
    simp at hf hg
    omega
  | 1 =>
    have h0 := hs 0 (by omega)
    simp at hf hg h0
    omega
  | 2 =>
    simp at hf hg
    omega
  | 3 =>
    simp at hf hg
    omega
  | 4 =>
    simp at hf hg
    omega
  | k + 5 => simp at hf
theorem ex_no {F : List Int} : ¬ exN.Feas false [0, 6] F := fun h => by
  obtain ⟨g0, g1, g2, g3, g4, rfl, _, _, _, _, _, _, _, _⟩ := ex_feas h
  omega
theorem ex_min : Min exN.A0 (exN.wt false [0, 6]) st3 := by
  have h8 : exN.wt false [0, 6] st3 = 5 := by rw [ex_wt, ex_out]; decide
  refine ⟨⟨by decide, by decide⟩, fun S hS => ?_⟩
  have s0 := hS.1
  rw [h8, ex_wt, ex_out, s0]
  cases s1 : S 1 <;> cases s2 : S 2 <;> cases s3 : S 3 <;> first | (simp; done) | (refine ⟨by simp, fun _ v hv => ?_⟩; have hlt : v < 3 := by simpa [st3] using hv
                                                                                   match v, hlt with
                                                                                   | 0, _ => exact s0
                                                                                   | 1, _ => exact s1
                                                                                   | 2, _ => exact s2)
theorem ex_spare : exN.Sp false [2, 4] 0 2 := by
  intro d hd
  simp at hd
  subst hd
  refine ⟨⟨[4, 4, 3, 1, 1], feas_mk (by omega) (by omega) (by omega) (by omega) (by omega) (by omega) (by omega) (by omega)⟩, fun s' F hF => ?_⟩
  obtain ⟨g0, g1, g2, g3, g4, rfl, _, _, _, _, _, _, _, _⟩ := ex_feas (a := 2 + s') (b := 4) hF
  omega
theorem ex_can : exN.Feas false [2, 4] [3, 3, 3, 1, 0] := feas_mk (by omega) (by omega) (by omega) (by omega) (by omega) (by omega) (by omega) (by omega)
end Go.Flow
