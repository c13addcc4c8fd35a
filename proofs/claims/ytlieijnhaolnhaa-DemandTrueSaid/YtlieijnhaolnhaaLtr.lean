/- Chapter 13: law 3 (DemandTrue): products of numbers, Toe, Pressure, the law: walks. -/
import Derived.Test.YtlieijnhaolnhaaNta
import Derived.Test.YtlieijnhaolnhaaAwk
namespace Go.Proofs.Ytlieijnhaolnhaa
open Go.RowKit Go.Kq

theorem times_is (u v : Value) (x y k m : Nat) (w : World) (hu : IsNat w u x k) (hv : IsNat w v y m) (hk : k ≤ 1000) (hm : m ≤ 1000) :
    Calls Try.prog 22 #[u, v] w fun e w' => ∃ z, e = .returned z ∧ IsNat w' z (x * y) (k + m + 1) ∧ Kp No w w' := by
  obtain ⟨A, n, c, l, rfl, h1, rfl, h3, _⟩ := hu
  obtain ⟨B, n2, c2, l2, rfl, g1, rfl, g3, _⟩ := hv
  refine (times_num A B n n2 c c2 l l2 w h1 g1 (by omega) (by omega)).mono ?_
  rintro e w' ⟨z, rfl, ⟨a, n', c', l', e1, e2, e3, e4, e5⟩, hk⟩
  exact ⟨z, rfl, ⟨a, n', c', l', e1, e2, e3, by omega, e5⟩, hk⟩
theorem order_is (u v : Value) (x y k m : Nat) (w : World) (hu : IsNat w u x k) (hv : IsNat w v y m) (hk : k ≤ 1000) (hm : m ≤ 1000) :
    Calls Try.prog 12 #[u, v] w fun e w' => e = .returned (.int .i64 (cmpN x y)) ∧ w = w' := by
  obtain ⟨A, n, c, l, rfl, h1, rfl, h3, _⟩ := hu
  obtain ⟨B, n2, c2, l2, rfl, g1, rfl, g3, _⟩ := hv
  exact order_num A B n n2 c c2 l l2 w h1 g1 (by omega) (by omega)
/-- law13's times. -/
theorem times_law (u v : Value) (x y k m : Nat) (w : World) (hu : IsNat w u x k) (hv : IsNat w v y m) (hk : k ≤ 1000) (hm : m ≤ 1000) :
    Calls Try.prog 11 #[u, v] w fun e w' => ∃ z, e = .returned z ∧ IsNat w' z (x * y) (k + m + 1) ∧ Kp No w w' := by
  have T := Lib.hid (times_is u v x y k m w hu hv hk hm)
  clear hu hv
  go_enter Try.func11, Try.ntmps11
  go_wp2_with fail
  refine T.out.mono ?_
  rintro _ w' ⟨z, rfl, hz, hk⟩
  go_wp2_with fail
  go_ret
  exact ⟨z, rfl, hz, hk⟩
def prodL (l : List Nat) : Nat := l.foldl (· * ·) 1
theorem prodL_take (l : List Nat) (k x : Nat) (h : l[k]? = some x) : prodL (l.take (k + 1)) = prodL (l.take k) * x := by
  unfold prodL
  rw [List.take_add_one, h, List.foldl_append]
  rfl
/-- Numbers in memory, none below 0. -/
structure RdN (w : World) (A : Option Addr) (n : Nat) (l : List Nat) : Prop where
  len : l.length = n
  at_ : ∀ i x, l[i]? = some x → ∃ b o, A = some ⟨b, o, none⟩ ∧ b < w.heap.size ∧ w.cell? ⟨b, o + i, none⟩ = some (.int .i64 (x : Nat))
  small : ∀ x ∈ l, x < 9223372036854775808
set_option maxHeartbeats 1000000 in
theorem product_any (A : Option Addr) (n c : Nat) (l : List Nat) (w : World) (h : RdN w A n l) (hn : n ≤ 100) :
    Calls Try.prog 10 #[.slice A n c] w fun e w' => ∃ v, e = .returned v ∧ IsNat w' v (prodL l) (3 * n + 2) ∧ Kp No w w' := by
  have H := Lib.hid h
  have OF := Lib.hid of_any
  have TL := Lib.hid times_law
  clear h
  go_enter Try.func10, Try.ntmps10
  go_wp2_with fail
  have O1 := OF.out 1 w (by omega)
  refine O1.mono ?_
  rintro _ w1 ⟨v1, rfl, hv1, k1⟩
  have V1 := Lib.hid hv1
  have K1 := Lib.hid k1
  clear O1 hv1 k1
  go_wp2_with fail
  go_loopw [3, 4] (fun s i wr => ∃ k : Nat, k ≤ n ∧ i = .int .i64 k ∧ IsNat wr s (prodL (l.take k)) (3 * k + 2) ∧ Kp No w wr) (fun _ i _ => n - (intOf i).toNat)
  case atStart => exact ⟨0, by omega, rfl, V1.out, K1.out⟩
  case round =>
    obtain ⟨k, hk, rfl, hs, hkp⟩ := hrel
    have HS := Lib.hid hs
    have KP := Lib.hid hkp
    clear hs hkp
    by_cases hlt : k < n
    · obtain ⟨x, hx⟩ : ∃ x, l[k]? = some x := ⟨_, List.getElem?_eq_getElem (by have := H.out.len; omega)⟩
      obtain ⟨b, o, rfl, hb, c0⟩ := H.out.at_ k x hx
      have hsm := H.out.small x (List.mem_of_getElem? hx)
      have c1 := KP.out.cell c0 (fun h => h)
      have HX := Lib.hid hx
      have hw : IntKind.u64.wrap (x : Int) = (x : Int) := by rw [IntKind.wrap_u64]; omega
      have OX := fun w0 => OF.out x w0 (by omega)
      have OX := Lib.hid OX
      clear hsm hx c0
      go_wp2_with fail
      refine (OX.out _).mono ?_
      rintro _ w2 ⟨v2, rfl, hv2, k2⟩
      have V2 := Lib.hid hv2
      have K2 := Lib.hid k2
      clear hv2 k2
      go_wp2_with fail
      have T := TL.out _ _ _ _ _ _ w2 (HS.out.no K2.out) V2.out (by omega) (by omega)
      refine T.mono ?_
      rintro _ w3 ⟨v3, rfl, hv3, k3⟩
      have V3 := Lib.hid hv3
      have K3 := Lib.hid k3
      clear T hv3 k3
      go_wp2_with fail
      go_round
      case rel =>
        refine ⟨k + 1, by omega, by go_num, ?_, KP.out.tr (K2.out.tr K3.out)⟩
        rw [prodL_take l k x HX.out]
        exact V3.out
      case measure => simp [intOf] <;> omega
    · obtain rfl : k = n := by omega
      go_wp2_with fail
      go_ret
      refine ⟨_, rfl, ?_, KP.out⟩
      have := HS.out
      rwa [List.take_of_length_le (by have := H.out.len; omega)] at this
theorem Toe_any (b f : Int) (w : World) : Calls Try.prog 7 #[toeV b f] w fun e w' => e = .returned (.bool (toeB b f)) ∧ Kp No w w' := by
  simp only [toeV]
  go_enter Try.func7, Try.ntmps7
  go_wp2
  all_goals
    go_ret
    refine ⟨ret_bool ?_, Kp.alloc _ _ _⟩
    unfold toeB
    simp [*] <;> (intros; omega)
theorem Pressure_any (p : Int) (w : World) : Calls Try.prog 8 #[.int .i64 p] w fun e w' => e = .returned (.bool (preB p)) ∧ w = w' := by
  go_enter Try.func8, Try.ntmps8
  go_wp2
  all_goals
    go_ret
    refine ⟨ret_bool ?_, rfl⟩
    unfold preB
    simp [*] <;> (intros; omega)
theorem prod_lit (vs : List Int) (l : List Nat) (w : World) (g n : Nat) (t : TypeId) (hg : w.heap.size = g) (hv : l.map (fun x : Nat => (x : Int)) = vs) (hn : l.length = n) (h100 : n ≤ 100) (hs : ∀ x ∈ l, x < 9223372036854775808) :
    Calls Try.prog 10 #[.slice (some ⟨g, 0, none⟩) n n] (w.alloc (.cells (vs.map (Value.int .i64)).toArray t)) fun e w' => ∃ v, e = .returned v ∧ IsNat w' v (prodL l) (3 * n + 2) ∧ Kp No w w' := by
  subst hv
  have hh : (w.alloc (.cells ((l.map (fun x : Nat => (x : Int))).map (Value.int .i64)).toArray t)).heap[g]? = some (.cells ((l.map (fun x : Nat => (x : Int))).map (Value.int .i64)).toArray t (0, 0)) := at_new hg
  have R := rdi_lit hh
  refine (product_any (some ⟨g, 0, none⟩) n n l _ ⟨hn, fun i x hx => R.2 i (x : Int) (by rw [List.getElem?_map, hx]; rfl), hs⟩ h100).mono ?_
  rintro _ w' ⟨v, rfl, h1, h2⟩
  exact ⟨v, rfl, h1, (Kp.alloc No _ _).tr h2⟩
theorem prodL_unit : prodL [4, 1000000000000, 1000000000000000000] = 4000000000000000000000000000000 := rfl
theorem low_nat {lo b f p : Nat} (h : 3 * ((lo : Int) * (lo : Int)) * (4000000000000000000000000000000 * 4000000000000000000000000000000) ≤ 5000000000000 * (p : Int) * ((f : Int) * (f : Int)) * ((b : Int) * (b : Int) * ((b : Int) * (b : Int))) * (3141592653589793238 * 3141592653589793238)) :
    prodL [3, lo, lo] * (prodL [4, 1000000000000, 1000000000000000000] * prodL [4, 1000000000000, 1000000000000000000]) ≤ prodL [5000000000000, p, f, f, b, b, b, b] * prodL [3141592653589793238, 3141592653589793238] := by
  rw [prodL_unit, show prodL [3, lo, lo] = 3 * (lo * lo) by simp [prodL, Nat.mul_assoc], show prodL [5000000000000, p, f, f, b, b, b, b] = 5000000000000 * p * (f * f) * (b * b * (b * b)) by simp [prodL, Nat.mul_assoc], show prodL [3141592653589793238, 3141592653589793238] = 3141592653589793238 * 3141592653589793238 from rfl]
  apply Int.ofNat_le.1
  simp only [Int.natCast_mul]
  exact h
theorem high_nat {hi b f p : Nat} (h : 5000000000000 * (p : Int) * ((f : Int) * (f : Int)) * ((b : Int) * (b : Int) * ((b : Int) * (b : Int))) * (3141592653589793239 * 3141592653589793239) ≤ 3 * ((hi : Int) * (hi : Int)) * (4000000000000000000000000000000 * 4000000000000000000000000000000)) :
    prodL [5000000000000, p, f, f, b, b, b, b] * prodL [3141592653589793239, 3141592653589793239] ≤ prodL [3, hi, hi] * (prodL [4, 1000000000000, 1000000000000000000] * prodL [4, 1000000000000, 1000000000000000000]) := by
  rw [prodL_unit, show prodL [3, hi, hi] = 3 * (hi * hi) by simp [prodL, Nat.mul_assoc], show prodL [5000000000000, p, f, f, b, b, b, b] = 5000000000000 * p * (f * f) * (b * b * (b * b)) by simp [prodL, Nat.mul_assoc], show prodL [3141592653589793239, 3141592653589793239] = 3141592653589793239 * 3141592653589793239 from rfl]
  apply Int.ofNat_le.1
  simp only [Int.natCast_mul]
  exact h
theorem cmpN_le {a b : Nat} (h : a ≤ b) : cmpN a b ≤ 0 := by
  unfold cmpN
  split <;> (try split) <;> omega
theorem cmpN_ge {a b : Nat} (h : b ≤ a) : 0 ≤ cmpN a b := by
  unfold cmpN
  split <;> (try split) <;> omega
theorem mem2 {a b M : Nat} (h1 : a < M) (h2 : b < M) : ∀ x ∈ [a, b], x < M := by
  intro x hx
  simp at hx
  omega
theorem mem3 {a b c M : Nat} (h1 : a < M) (h2 : b < M) (h3 : c < M) : ∀ x ∈ [a, b, c], x < M := by
  intro x hx
  simp at hx
  omega
theorem mem8 {a p f b M : Nat} (h1 : a < M) (h2 : p < M) (h3 : f < M) (h4 : b < M) : ∀ x ∈ [a, p, f, f, b, b, b, b], x < M := by
  intro x hx
  simp at hx
  omega
set_option maxHeartbeats 4000000 in
set_option maxRecDepth 100000 in
theorem ttrue_ok (b f p : Nat) (w : World) (h : (toeB b f && preB p) = true) :
    Calls Try.prog 3 #[toeV b f, .int .i64 p] w fun e w' => e = .returned (.bool true) ∧ Kp No w w' := by
  have TL := Lib.hid times_law
  have OR := Lib.hid order_is
  have PI := fun w0 => Pipe_any b f p w0
  have AW := Lib.hid awake_any
  unfold pipE at PI
  rw [h] at PI
  simp only [if_true, ieV, ivV] at PI
  have hB := toeB_of (Bool.and_eq_true _ _ ▸ h).1
  have hP : 10 ≤ (p : Int) ∧ (p : Int) ≤ 5000 := by
    have := (Bool.and_eq_true _ _ ▸ h).2
    unfold preB at this
    simp at this
    omega
  have n1 := tlo_nn (b := b) (f := f) (p := p) (by omega) (by omega)
  have n2 := tlo_thi (b := b) (f := f) (p := p) (by omega) (by omega) (by omega)
  have n3 := wide (b := b) (f := f) (p := p) (by omega) (by omega) (by omega) (by omega) (by omega) (by omega)
  have n4 := thi_le (b := b) (f := f) (p := p) (by omega) (by omega) (by omega) (by omega) (by omega) (by omega)
  have m1 := low_sq (b := b) (f := f) (p := p) (by omega) (by omega) (by omega)
  have m2 := high_sq (b := b) (f := f) (p := p) (by omega) (by omega) (by omega)
  obtain ⟨lo, hlo⟩ := Int.eq_ofNat_of_zero_le n1
  obtain ⟨hi, hhi⟩ := Int.eq_ofNat_of_zero_le (Int.le_trans n1 n2)
  rw [hlo] at PI n1 n2 n3 m1
  rw [hhi] at PI n2 n3 n4 m2
  have PI := Lib.hid PI
  have Z1 := Lib.hid (cmpN_le (low_nat m1))
  have Z2 := Lib.hid (cmpN_ge (high_nat m2))
  have U0 := fun (w0 : World) (g : Nat) (hg : w0.heap.size = g) => prod_lit [4, 1000000000000, 1000000000000000000] [4, 1000000000000, 1000000000000000000] w0 g 3 2 hg rfl rfl (by omega) (mem3 (by omega) (by omega) (by omega))
  have ULO := fun (w0 : World) (g : Nat) (hg : w0.heap.size = g) => prod_lit [3, (lo : Int), (lo : Int)] [3, lo, lo] w0 g 3 2 hg rfl rfl (by omega) (mem3 (by omega) (by omega) (by omega))
  have UHI := fun (w0 : World) (g : Nat) (hg : w0.heap.size = g) => prod_lit [3, (hi : Int), (hi : Int)] [3, hi, hi] w0 g 3 2 hg rfl rfl (by omega) (mem3 (by omega) (by omega) (by omega))
  have UR := fun (w0 : World) (g : Nat) (hg : w0.heap.size = g) => prod_lit [5000000000000, (p : Int), (f : Int), (f : Int), (b : Int), (b : Int), (b : Int), (b : Int)] [5000000000000, p, f, f, b, b, b, b] w0 g 8 2 hg rfl rfl (by omega) (mem8 (by omega) (by omega) (by omega) (by omega))
  have UPL := fun (w0 : World) (g : Nat) (hg : w0.heap.size = g) => prod_lit [3141592653589793238, 3141592653589793238] [3141592653589793238, 3141592653589793238] w0 g 2 2 hg rfl rfl (by omega) (mem2 (by omega) (by omega))
  have UPH := fun (w0 : World) (g : Nat) (hg : w0.heap.size = g) => prod_lit [3141592653589793239, 3141592653589793239] [3141592653589793239, 3141592653589793239] w0 g 2 2 hg rfl rfl (by omega) (mem2 (by omega) (by omega))
  generalize prodL [4, 1000000000000, 1000000000000000000] = nu at *
  generalize prodL [3, lo, lo] = nlo at *
  generalize prodL [3, hi, hi] = nhi at *
  generalize prodL [5000000000000, p, f, f, b, b, b, b] = nr at *
  generalize prodL [3141592653589793238, 3141592653589793238] = npl at *
  generalize prodL [3141592653589793239, 3141592653589793239] = nph at *
  have U0 := Lib.hid U0
  have ULO := Lib.hid ULO
  have UHI := Lib.hid UHI
  have UR := Lib.hid UR
  have UPL := Lib.hid UPL
  have UPH := Lib.hid UPH
  clear m1 m2 hlo hhi h
  unfold toeV at PI ⊢
  have a1 : ¬ (lo : Int) < 0 := by omega
  have a2 : ¬ (hi : Int) < (lo : Int) := by omega
  have a3 : IntKind.i64.wrap ((hi : Int) - (lo : Int)) = (hi : Int) - (lo : Int) := by rw [IntKind.wrap_i64]; omega
  have a4 : ¬ (10 : Int) < (hi : Int) - (lo : Int) := by omega
  go_enter Try.func3, Try.ntmps3
  go_wp2_with fail
  refine (PI.out _).mono ?_
  rintro _ w1 ⟨rfl, k1⟩
  have T := Lib.hid (two_new k1)
  have K := Lib.hid ((Kp.alloc No w _).tr k1)
  obtain ⟨c0, c1, _, _⟩ := two_cells T.out
  clear k1
  go_wp2_with fail
  refine (U0.out _ _ (World.size_alloc _ _)).mono ?_
  rintro _ w2 ⟨v2, rfl, h0, k0⟩
  have HU := Lib.hid h0
  clear h0
  have I := Lib.hid (k0.heap (at_new (o := .cells #[.int .i64 lo, .int .i64 hi] 25) (n := w1.heap.size) rfl) id)
  replace k0 := (Kp.alloc No _ _).tr k0
  replace T := Lib.hid (k0.heap T.out id)
  replace K := Lib.hid (K.out.tr k0)
  clear k0
  replace c0 := (two_cells T.out).1
  replace c1 := (two_cells T.out).2.1
  have d0 := (two_cells I.out).1
  have d1 := (two_cells I.out).2.1
  go_wp2_with fail
  refine (ULO.out _ _ rfl).mono ?_
  rintro _ w3 ⟨v3, rfl, h0, k0⟩
  have HL0 := Lib.hid h0
  clear h0
  replace I := Lib.hid (k0.heap I.out id)
  replace T := Lib.hid (k0.heap T.out id)
  replace K := Lib.hid (K.out.tr k0)
  replace HU := Lib.hid (HU.out.no k0)
  clear k0
  replace c0 := (two_cells T.out).1
  replace c1 := (two_cells T.out).2.1
  replace d0 := (two_cells I.out).1
  replace d1 := (two_cells I.out).2.1
  go_wp2_with fail
  refine (TL.out _ _ _ _ _ _ w3 HU.out HU.out (by omega) (by omega)).mono ?_
  rintro _ w4 ⟨v4, rfl, h0, k0⟩
  have HUU := Lib.hid h0
  clear h0
  replace I := Lib.hid (k0.heap I.out id)
  replace T := Lib.hid (k0.heap T.out id)
  replace K := Lib.hid (K.out.tr k0)
  replace HU := Lib.hid (HU.out.no k0)
  replace HL0 := Lib.hid (HL0.out.no k0)
  clear k0
  replace c0 := (two_cells T.out).1
  replace c1 := (two_cells T.out).2.1
  replace d0 := (two_cells I.out).1
  replace d1 := (two_cells I.out).2.1
  go_wp2_with fail
  refine (TL.out _ _ _ _ _ _ w4 HL0.out HUU.out (by omega) (by omega)).mono ?_
  rintro _ w5 ⟨v5, rfl, h0, k0⟩
  have HL := Lib.hid h0
  clear h0
  replace I := Lib.hid (k0.heap I.out id)
  replace T := Lib.hid (k0.heap T.out id)
  replace K := Lib.hid (K.out.tr k0)
  replace HU := Lib.hid (HU.out.no k0)
  replace HL0 := Lib.hid (HL0.out.no k0)
  replace HUU := Lib.hid (HUU.out.no k0)
  clear k0
  replace c0 := (two_cells T.out).1
  replace c1 := (two_cells T.out).2.1
  replace d0 := (two_cells I.out).1
  replace d1 := (two_cells I.out).2.1
  go_wp2_with fail
  refine (UHI.out _ _ rfl).mono ?_
  rintro _ w6 ⟨v6, rfl, h0, k0⟩
  have HH0 := Lib.hid h0
  clear h0
  replace I := Lib.hid (k0.heap I.out id)
  replace T := Lib.hid (k0.heap T.out id)
  replace K := Lib.hid (K.out.tr k0)
  replace HU := Lib.hid (HU.out.no k0)
  replace HL := Lib.hid (HL.out.no k0)
  clear k0
  replace c0 := (two_cells T.out).1
  replace c1 := (two_cells T.out).2.1
  replace d0 := (two_cells I.out).1
  replace d1 := (two_cells I.out).2.1
  go_wp2_with fail
  refine (TL.out _ _ _ _ _ _ w6 HU.out HU.out (by omega) (by omega)).mono ?_
  rintro _ w7 ⟨v7, rfl, h0, k0⟩
  have HUU := Lib.hid h0
  clear h0
  replace I := Lib.hid (k0.heap I.out id)
  replace T := Lib.hid (k0.heap T.out id)
  replace K := Lib.hid (K.out.tr k0)
  replace HU := Lib.hid (HU.out.no k0)
  replace HL := Lib.hid (HL.out.no k0)
  replace HH0 := Lib.hid (HH0.out.no k0)
  clear k0
  replace c0 := (two_cells T.out).1
  replace c1 := (two_cells T.out).2.1
  replace d0 := (two_cells I.out).1
  replace d1 := (two_cells I.out).2.1
  go_wp2_with fail
  refine (TL.out _ _ _ _ _ _ w7 HH0.out HUU.out (by omega) (by omega)).mono ?_
  rintro _ w8 ⟨v8, rfl, h0, k0⟩
  have HH := Lib.hid h0
  clear h0
  replace I := Lib.hid (k0.heap I.out id)
  replace T := Lib.hid (k0.heap T.out id)
  replace K := Lib.hid (K.out.tr k0)
  replace HU := Lib.hid (HU.out.no k0)
  replace HL := Lib.hid (HL.out.no k0)
  replace HH0 := Lib.hid (HH0.out.no k0)
  replace HUU := Lib.hid (HUU.out.no k0)
  clear k0
  replace c0 := (two_cells T.out).1
  replace c1 := (two_cells T.out).2.1
  replace d0 := (two_cells I.out).1
  replace d1 := (two_cells I.out).2.1
  go_wp2_with fail
  refine (UR.out _ _ rfl).mono ?_
  rintro _ w9 ⟨v9, rfl, h0, k0⟩
  have HR := Lib.hid h0
  clear h0
  replace I := Lib.hid (k0.heap I.out id)
  replace T := Lib.hid (k0.heap T.out id)
  replace K := Lib.hid (K.out.tr k0)
  replace HL := Lib.hid (HL.out.no k0)
  replace HH := Lib.hid (HH.out.no k0)
  clear k0
  replace c0 := (two_cells T.out).1
  replace c1 := (two_cells T.out).2.1
  replace d0 := (two_cells I.out).1
  replace d1 := (two_cells I.out).2.1
  go_wp2_with fail
  refine (UPL.out _ _ rfl).mono ?_
  rintro _ w10 ⟨v10, rfl, h0, k0⟩
  have HPL := Lib.hid h0
  clear h0
  replace I := Lib.hid (k0.heap I.out id)
  replace T := Lib.hid (k0.heap T.out id)
  replace K := Lib.hid (K.out.tr k0)
  replace HL := Lib.hid (HL.out.no k0)
  replace HH := Lib.hid (HH.out.no k0)
  replace HR := Lib.hid (HR.out.no k0)
  clear k0
  replace c0 := (two_cells T.out).1
  replace c1 := (two_cells T.out).2.1
  replace d0 := (two_cells I.out).1
  replace d1 := (two_cells I.out).2.1
  go_wp2_with fail
  refine (TL.out _ _ _ _ _ _ w10 HR.out HPL.out (by omega) (by omega)).mono ?_
  rintro _ w11 ⟨v11, rfl, h0, k0⟩
  have HLE := Lib.hid h0
  clear h0
  replace I := Lib.hid (k0.heap I.out id)
  replace T := Lib.hid (k0.heap T.out id)
  replace K := Lib.hid (K.out.tr k0)
  replace HL := Lib.hid (HL.out.no k0)
  replace HH := Lib.hid (HH.out.no k0)
  replace HR := Lib.hid (HR.out.no k0)
  replace HPL := Lib.hid (HPL.out.no k0)
  clear k0
  replace c0 := (two_cells T.out).1
  replace c1 := (two_cells T.out).2.1
  replace d0 := (two_cells I.out).1
  replace d1 := (two_cells I.out).2.1
  go_wp2_with fail
  refine (UPH.out _ _ rfl).mono ?_
  rintro _ w12 ⟨v12, rfl, h0, k0⟩
  have HPH := Lib.hid h0
  clear h0
  replace I := Lib.hid (k0.heap I.out id)
  replace T := Lib.hid (k0.heap T.out id)
  replace K := Lib.hid (K.out.tr k0)
  replace HL := Lib.hid (HL.out.no k0)
  replace HH := Lib.hid (HH.out.no k0)
  replace HR := Lib.hid (HR.out.no k0)
  replace HPL := Lib.hid (HPL.out.no k0)
  replace HLE := Lib.hid (HLE.out.no k0)
  clear k0
  replace c0 := (two_cells T.out).1
  replace c1 := (two_cells T.out).2.1
  replace d0 := (two_cells I.out).1
  replace d1 := (two_cells I.out).2.1
  go_wp2_with fail
  refine (TL.out _ _ _ _ _ _ w12 HR.out HPH.out (by omega) (by omega)).mono ?_
  rintro _ w13 ⟨v13, rfl, h0, k0⟩
  have HMO := Lib.hid h0
  clear h0
  have O1 := Lib.hid (OR.out _ _ _ _ _ _ w13 (HL.out.no k0) (HLE.out.no k0) (by omega) (by omega))
  have O2 := Lib.hid (OR.out _ _ _ _ _ _ w13 (HH.out.no k0) HMO.out (by omega) (by omega))
  have z1 := Z1.out
  have z2 := Z2.out
  obtain ⟨y1, hy1⟩ : ∃ y : Int, y = cmpN (nlo * (nu * nu)) (nr * npl) := ⟨_, rfl⟩
  obtain ⟨y2, hy2⟩ : ∃ y : Int, y = cmpN (nhi * (nu * nu)) (nr * nph) := ⟨_, rfl⟩
  rw [← hy1] at O1 z1
  rw [← hy2] at O2 z2
  clear hy1 hy2
  replace I := Lib.hid (k0.heap I.out id)
  replace T := Lib.hid (k0.heap T.out id)
  replace K := Lib.hid (K.out.tr k0)
  clear k0
  replace c0 := (two_cells T.out).1
  replace c1 := (two_cells T.out).2.1
  replace d0 := (two_cells I.out).1
  replace d1 := (two_cells I.out).2.1
  go_wp2_with fail
  refine O1.out.mono ?_
  rintro _ _ ⟨rfl, rfl⟩
  go_wp2_with fail
  refine O2.out.mono ?_
  rintro _ _ ⟨rfl, rfl⟩
  go_wp2_with fail
  refine (AW.out _).mono ?_
  rintro _ w14 ⟨rfl, k0⟩
  go_wp2_with fail
  go_ret
  exact ⟨rfl, K.out.tr k0⟩
set_option maxHeartbeats 4000000 in
set_option maxRecDepth 100000 in
theorem ttrue_bad (b f p : Int) (w : World) (h : (toeB b f && preB p) = false) :
    Calls Try.prog 3 #[toeV b f, .int .i64 p] w fun e w' => e = .returned (.bool true) ∧ Kp No w w' := by
  have PI := fun w0 => Pipe_any b f p w0
  have AW := Lib.hid awake_any
  have TO := fun w0 => Toe_any b f w0
  have PR := fun w0 => Pressure_any p w0
  unfold pipE at PI
  rw [h] at PI
  simp only [Bool.false_eq_true, if_false, ieV, ivV] at PI
  have PI := Lib.hid PI
  have hg := iv_guard
  have q1 := iv_eql (0, 0) (0, 0)
  rw [show eqP (0, 0) (0, 0) = true from rfl] at q1
  simp only at q1
  unfold toeV at PI TO ⊢
  cases d1 : toeB b f
  · rw [d1] at TO
    have TO := Lib.hid TO
    have PR := Lib.hid PR
    clear h d1
    go_enter Try.func3, Try.ntmps3
    go_wp2_with fail
    refine (PI.out _).mono ?_
    rintro _ w1 ⟨rfl, k1⟩
    have T := Lib.hid (two_new k1)
    have K := Lib.hid ((Kp.alloc No w _).tr k1)
    obtain ⟨c0, c1, _, _⟩ := two_cells T.out
    have z1 : w.heap.size < w1.heap.size := (Array.getElem?_eq_some_iff.1 T.out).1
    clear k1
    go_wp2_with fail
    refine (TO.out _).mono ?_
    rintro _ w2 ⟨rfl, k2⟩
    replace K := Lib.hid (K.out.tr ((Kp.alloc No _ _).tr k2))
    clear k2
    go_wp2_with fail
    refine (AW.out _).mono ?_
    rintro _ w3 ⟨rfl, k3⟩
    go_wp2_with fail
    go_ret
    exact ⟨rfl, K.out.tr k3⟩
  · rw [d1] at TO h
    rw [Bool.true_and] at h
    rw [h] at PR
    have TO := Lib.hid TO
    have PR := Lib.hid PR
    clear h d1
    go_enter Try.func3, Try.ntmps3
    go_wp2_with fail
    refine (PI.out _).mono ?_
    rintro _ w1 ⟨rfl, k1⟩
    have T := Lib.hid (two_new k1)
    have K := Lib.hid ((Kp.alloc No w _).tr k1)
    obtain ⟨c0, c1, _, _⟩ := two_cells T.out
    have z1 : w.heap.size < w1.heap.size := (Array.getElem?_eq_some_iff.1 T.out).1
    clear k1
    go_wp2_with fail
    refine (TO.out _).mono ?_
    rintro _ w2 ⟨rfl, k2⟩
    replace K := Lib.hid (K.out.tr ((Kp.alloc No _ _).tr k2))
    clear k2
    go_wp2_with fail
    refine (PR.out _).mono ?_
    rintro _ _ ⟨rfl, rfl⟩
    go_wp2_with fail
    refine (AW.out _).mono ?_
    rintro _ w3 ⟨rfl, k3⟩
    go_wp2_with fail
    go_ret
    exact ⟨rfl, K.out.tr k3⟩
theorem ttrue_any (b f p : Int) (w : World) :
    Calls Try.prog 3 #[toeV b f, .int .i64 p] w fun e w' => e = .returned (.bool true) ∧ Kp No w w' := by
  cases h : (toeB b f && preB p)
  · exact ttrue_bad b f p w h
  · have hB := toeB_of (Bool.and_eq_true _ _ ▸ h).1
    have hP : 10 ≤ p ∧ p ≤ 5000 := by
      have := (Bool.and_eq_true _ _ ▸ h).2
      unfold preB at this
      simp at this
      omega
    obtain ⟨b, rfl⟩ := Int.eq_ofNat_of_zero_le (show 0 ≤ b by omega)
    obtain ⟨f, rfl⟩ := Int.eq_ofNat_of_zero_le (show 0 ≤ f by omega)
    obtain ⟨p, rfl⟩ := Int.eq_ofNat_of_zero_le (show 0 ≤ p by omega)
    exact ttrue_ok b f p w h
end Go.Proofs.Ytlieijnhaolnhaa
