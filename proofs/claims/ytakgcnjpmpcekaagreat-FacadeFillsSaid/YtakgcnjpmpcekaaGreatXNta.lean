/- Great numbers by limbs: the plain laws (valN, limN); limb, trim, Of, Order, Times: walks. -/
import Derived.Test.YtakgcnjpmpcekaaGreatProg
import Derived.KernelRfl
import Derived.BigQuiet
import Derived.Deep.QuietTactic
import Derived.Test.YtakgcnjpmpcekaaGreatXFlAM
import Derived.Test.YtakgcnjpmpcekaaGreatXLibMakeM
namespace Go.Kq
open Go.RowKit

/-- The value of limbs, the least first. -/
def valN (B : Nat) : List Nat → Nat
  | [] => 0
  | x :: l => x + B * valN B l
theorem valN_append (B : Nat) : ∀ l m : List Nat, valN B (l ++ m) = valN B l + B ^ l.length * valN B m
  | [], m => by simp [valN]
  | x :: l, m => by
    rw [List.cons_append, valN, valN, valN_append B l m, List.length_cons, Nat.pow_succ, Nat.mul_add]
    rw [Nat.mul_comm (B ^ l.length) B, Nat.mul_assoc]
    omega
theorem valN_set (B : Nat) : ∀ (l : List Nat) (j x y : Nat), l[j]? = some y → valN B (l.set j x) + B ^ j * y = valN B l + B ^ j * x
  | [], j, x, y, h => by simp at h
  | z :: l, 0, x, y, h => by
    simp at h
    subst h
    simp only [List.set_cons_zero, valN, Nat.pow_zero]
    omega
  | z :: l, j + 1, x, y, h => by
    have ih := valN_set B l j x y (by simpa using h)
    simp only [List.set_cons_succ, valN]
    have e : B ^ (j + 1) = B * B ^ j := by rw [Nat.pow_succ, Nat.mul_comm]
    rw [e, Nat.mul_assoc, Nat.mul_assoc]
    have := congrArg (B * ·) ih
    simp only [Nat.mul_add] at this
    omega
theorem valN_lt {B : Nat} (hB : 0 < B) : ∀ l : List Nat, (∀ x ∈ l, x < B) → valN B l < B ^ l.length
  | [], _ => by simp [valN]
  | x :: l, h => by
    have ih := valN_lt hB l fun y hy => h y (by simp [hy])
    have hx := h x (by simp)
    rw [valN, List.length_cons, Nat.pow_succ, Nat.mul_comm (B ^ l.length) B]
    have := Nat.mul_le_mul_left B (show valN B l + 1 ≤ B ^ l.length from ih)
    rw [Nat.mul_add] at this
    omega
theorem valN_take (B : Nat) (l : List Nat) (k x : Nat) (h : l[k]? = some x) : valN B (l.take (k + 1)) = valN B (l.take k) + B ^ k * x := by
  have hk := (List.getElem?_eq_some_iff.1 h).1
  rw [List.take_add_one, h, valN_append, List.length_take, Nat.min_eq_left (by omega)]
  simp [valN]
theorem valN_zeros (B n : Nat) : valN B (List.replicate n 0) = 0 := by
  induction n with
  | zero => rfl
  | succ n ih => rw [List.replicate_succ, valN, ih]; omega
/-- Limbs of value 0 at the end may be dropped. -/
theorem valN_drop {B : Nat} {l : List Nat} {n : Nat} (h : ∀ i x, n ≤ i → l[i]? = some x → x = 0) : valN B (l.take n) = valN B l := by
  have e : l = l.take n ++ l.drop n := (List.take_append_drop n l).symm
  have hz : l.drop n = List.replicate (l.drop n).length 0 := by
    apply List.ext_getElem?
    intro i
    by_cases hi : i < (l.drop n).length
    · obtain ⟨x, hx⟩ : ∃ x, (l.drop n)[i]? = some x := ⟨_, List.getElem?_eq_getElem hi⟩
      rw [hx, List.getElem?_replicate, if_pos hi]
      rw [List.getElem?_drop] at hx
      rw [h (n + i) x (by omega) hx]
    · rw [List.getElem?_eq_none (by omega), List.getElem?_eq_none (by simpa using hi)]
  conv => rhs; rw [e]
  rw [valN_append, hz, valN_zeros]
  simp
/-- The limb at a place; 0 behind the last one. -/
def limN (l : List Nat) (i : Nat) : Nat := l.getD i 0
theorem limN_some {l : List Nat} {i x : Nat} (h : l[i]? = some x) : limN l i = x := by
  unfold limN
  rw [List.getD_eq_getElem?_getD, h]
  rfl
theorem limN_none {l : List Nat} {i : Nat} (h : l.length ≤ i) : limN l i = 0 := by
  unfold limN
  rw [List.getD_eq_getElem?_getD, List.getElem?_eq_none h]
  rfl
theorem limN_lt {B : Nat} (hB : 0 < B) {l : List Nat} (hl : ∀ x ∈ l, x < B) (i : Nat) : limN l i < B := by
  rcases Nat.lt_or_ge i l.length with h | h
  · rw [limN_some (List.getElem?_eq_getElem h)]
    exact hl _ (List.getElem_mem h)
  · rw [limN_none h]
    exact hB
theorem valN_takeL (B : Nat) (l : List Nat) (k : Nat) : valN B (l.take (k + 1)) = valN B (l.take k) + B ^ k * limN l k := by
  rcases Nat.lt_or_ge k l.length with h | h
  · rw [limN_some (List.getElem?_eq_getElem h)]
    exact valN_take B l k _ (List.getElem?_eq_getElem h)
  · rw [limN_none h, List.take_of_length_le (by omega), List.take_of_length_le h]
    simp
/-- Numbers with the same limbs from a place on are ordered by that one's. -/
theorem valN_cmp {B : Nat} (hB : 0 < B) {a b : List Nat} (ha : ∀ x ∈ a, x < B) (_hb : ∀ x ∈ b, x < B) (k : Nat) : (∀ i, k < i → limN a i = limN b i) → limN a k < limN b k → valN B a < valN B b := by
  have tail : ∀ n : Nat, (∀ i, k < i → limN a i = limN b i) → limN a k < limN b k → valN B (a.take (k + 1 + n)) < valN B (b.take (k + 1 + n)) := by
    intro n he hl
    induction n with
    | zero =>
      rw [Nat.add_zero, valN_takeL, valN_takeL]
      have h1 : valN B (a.take k) < B ^ k := by
        have := valN_lt hB (a.take k) fun x hx => ha x (List.mem_of_mem_take hx)
        refine Nat.lt_of_lt_of_le this (Nat.pow_le_pow_right hB ?_)
        rw [List.length_take]
        omega
      have h2 := Nat.mul_le_mul_left (B ^ k) (show limN a k + 1 ≤ limN b k from hl)
      rw [Nat.mul_add] at h2
      omega
    | succ n ih =>
      rw [show k + 1 + (n + 1) = (k + 1 + n) + 1 by omega, valN_takeL, valN_takeL, he (k + 1 + n) (by omega)]
      omega
  intro he hl
  have := tail (a.length + b.length) he hl
  rwa [List.take_of_length_le (by omega), List.take_of_length_le (by omega)] at this
theorem valN_eq {B : Nat} {a b : List Nat} (he : ∀ i, limN a i = limN b i) : valN B a = valN B b := by
  have : ∀ n : Nat, valN B (a.take n) = valN B (b.take n) := by
    intro n
    induction n with
    | zero => simp
    | succ n ih => rw [valN_takeL, valN_takeL, ih, he]
  have := this (a.length + b.length)
  rwa [List.take_of_length_le (by omega), List.take_of_length_le (by omega)] at this
/-- A step of the product: limb by limb. -/
theorem mul_step {B V c i k z x y : Nat} {out : List Nat} {T : Nat} (hz : out[i + k]? = some z) (hI : valN B out + c * B ^ (i + k) = T) (hV : V = z + x * y + c) (_hB : 0 < B) :
    valN B (out.set (i + k) (V % B)) + V / B * B ^ (i + (k + 1)) = T + B ^ (i + k) * (x * y) := by
  have h := valN_set B out (i + k) (V % B) z hz
  have e : V / B * B ^ (i + (k + 1)) = B ^ (i + k) * (B * (V / B)) := by
    rw [show i + (k + 1) = (i + k) + 1 by omega, Nat.pow_succ]
    rw [Nat.mul_comm (V / B), Nat.mul_assoc]
  have hd := Nat.div_add_mod V B
  have h2 : B ^ (i + k) * (B * (V / B)) + B ^ (i + k) * (V % B) = B ^ (i + k) * V := by rw [← Nat.mul_add, hd]
  have h3 : B ^ (i + k) * V = B ^ (i + k) * z + B ^ (i + k) * (x * y) + B ^ (i + k) * c := by rw [hV, Nat.mul_add, Nat.mul_add]
  have h4 : c * B ^ (i + k) = B ^ (i + k) * c := Nat.mul_comm _ _
  rw [e]
  omega
theorem mul_small {B x y z c : Nat} (hx : x < B) (hy : y < B) (hz : z < B) (hc : c < B) : z + x * y + c < B * B ∧ (z + x * y + c) / B < B := by
  have h : x * y ≤ (B - 1) * (B - 1) := Nat.mul_le_mul (by omega) (by omega)
  have e : (B - 1) * (B - 1) + 2 * (B - 1) + 1 = B * B := by
    obtain ⟨b, rfl⟩ : ∃ b, B = b + 1 := ⟨B - 1, by omega⟩
    simp only [Nat.add_sub_cancel, Nat.add_mul, Nat.mul_add]
    omega
  have h2 : z + x * y + c < B * B := by omega
  exact ⟨h2, Nat.div_lt_of_lt_mul h2⟩
end Go.Kq
namespace Go.Proofs.YtakgcnjpmpcekaaGreat
open Go.RowKit Go.Kq

def BB : Nat := 4294967296
def u32V (x : Nat) : Value := .int .u32 (x : Nat)
/-- Limbs that lie in memory. -/
structure NatAt (w : World) (A : Option Addr) (n : Nat) (l : List Nat) : Prop where
  len : l.length = n
  at_ : ∀ i x, l[i]? = some x → ∃ b o, A = some ⟨b, o, none⟩ ∧ b < w.heap.size ∧ w.cell? ⟨b, o + i, none⟩ = some (.int .u32 (x : Nat))
  small : ∀ x ∈ l, x < BB
theorem NatAt.no {w w' : World} {A : Option Addr} {n : Nat} {l : List Nat} (h : NatAt w A n l) (k : Kp No w w') : NatAt w' A n l :=
  ⟨h.len, fun i x hx => by
    obtain ⟨b, o, hA, hb, hc⟩ := h.at_ i x hx
    exact ⟨b, o, hA, Nat.lt_of_lt_of_le hb k.size, k.cell hc id⟩, h.small⟩
theorem NatAt.of_own {w : World} {A : Option Addr} {n base cap : Nat} {e : TypeId} {l : List Nat} (h : w.ownsRow base e 1 (.slice A n cap) n (l.map u32V)) (hs : ∀ x ∈ l, x < BB) : NatAt w A n l := by
  have hl := h.1
  simp at hl
  refine ⟨hl, fun i x hx => ?_, hs⟩
  have hi := (List.getElem?_eq_some_iff.1 hx).1
  obtain ⟨a, c, hv', h1, h2, h3⟩ := own_form h
  cases hv'
  obtain ⟨g, rfl⟩ := h3 (by omega)
  exact ⟨g, 0, rfl, (own_ge h (g := g) rfl).2, by rw [Nat.zero_add]; exact own_cell h (by rw [List.getElem?_map, hx]; rfl)⟩
/-- A value that is the number N, of at most k limbs, the last of which is not 0. -/
def IsNat (w : World) (v : Value) (N k : Nat) : Prop := ∃ A n c l, v = .slice A n c ∧ NatAt w A n l ∧ valN BB l = N ∧ n ≤ k ∧ (A = none → n = 0 ∧ c = 0) ∧ ∀ j, n = j + 1 → BB ^ j ≤ N
/-- A value that holds no block below g. -/
def FreshV (g : Nat) (v : Value) : Prop := ∀ b, v.ownBlock = some b → g ≤ b
/-- A number in a block of its own, from g on. -/
def IsNew (g : Nat) (w : World) (v : Value) (N k : Nat) : Prop := IsNat w v N k ∧ FreshV g v
theorem FreshV.mono {g g' : Nat} {v : Value} (h : FreshV g v) (hg : g' ≤ g) : FreshV g' v := fun b hb => Nat.le_trans hg (h b hb)
theorem IsNat.kp {S : Nat → Prop} {w w' : World} {v : Value} {N k : Nat} (h : IsNat w v N k) (hk : Kp S w w') (hS : ∀ b, v.ownBlock = some b → ¬ S b) : IsNat w' v N k := by
  obtain ⟨A, n, c, l, rfl, h2, h3⟩ := h
  refine ⟨A, n, c, l, rfl, ⟨h2.len, fun i x hx => ?_, h2.small⟩, h3⟩
  obtain ⟨b, o, hA, hb, hc⟩ := h2.at_ i x hx
  subst hA
  exact ⟨b, o, rfl, Nat.lt_of_lt_of_le hb hk.size, hk.cell hc (hS b rfl)⟩
theorem IsNew.kp {w w' : World} {v : Value} {N k g B : Nat} (h : IsNew g w v N k) (hk : Kp (Kq.One B) w w') (hB : B < g) : IsNew g w' v N k :=
  ⟨h.1.kp hk fun b hb e => by have := h.2 b hb; unfold Kq.One at e; omega, h.2⟩
theorem IsNat.no {w w' : World} {v : Value} {N k : Nat} (h : IsNat w v N k) (hk : Kp No w w') : IsNat w' v N k := by
  obtain ⟨A, n, c, l, h1, h2, h3⟩ := h
  exact ⟨A, n, c, l, h1, h2.no hk, h3⟩
theorem limb_any (A : Option Addr) (n cap i : Nat) (l : List Nat) (w : World) (h : NatAt w A n l) (_hn : n ≤ 1000000) :
    Calls Tryz.prog 83 #[.slice A n cap, .int .i64 (i : Nat)] w fun e w' => e = .returned (.int .u64 (limN l i : Nat)) ∧ w' = w := by
  by_cases hlt : i < n
  · obtain ⟨x, hx⟩ : ∃ x, l[i]? = some x := ⟨_, List.getElem?_eq_getElem (by have := h.len; omega)⟩
    obtain ⟨b, o, rfl, _, c0⟩ := h.at_ i x hx
    have hs := h.small x (List.mem_of_getElem? hx)
    rw [limN_some hx]
    have hw : IntKind.u64.wrap (x : Int) = (x : Int) := by unfold BB at hs; rw [IntKind.wrap_u64]; omega
    clear hs hx h
    go_enter Tryz.func83, Tryz.ntmps83
    go_wp2
    go_ret
    exact ⟨rfl, rfl⟩
  · rw [limN_none (by have := h.len; omega)]
    go_enter Tryz.func83, Tryz.ntmps83
    go_wp2
    go_ret
    exact ⟨rfl, rfl⟩
theorem infoU : (Tryz.prog.info? 134).map (fun i => (i.zero, i.size, i.bytes)) = some (some (.int .u32 0), 1, 4) := by kernel_rfl
theorem nat_news {w : World} {b o n : Nat} {l : List Nat} {k : Nat} (h : NatAt w (some ⟨b, o, none⟩) n l) {i : Nat} {u : Value} (hu : ((l.take k).map u32V)[i]? = some u) : w.cell? ((⟨b, o, none⟩ : Addr).add i) = some u := by
  rw [List.getElem?_map] at hu
  cases hx : (l.take k)[i]? with
  | none => rw [hx] at hu; cases hu
  | some x =>
    rw [hx] at hu
    cases hu
    have hx' : l[i]? = some x := by
      rw [List.getElem?_take] at hx
      split at hx
      · exact hx
      · cases hx
    obtain ⟨b', o', hA, _, hc⟩ := h.at_ i x hx'
    cases hA
    rw [add_at]
    exact hc
theorem trim_end {w w' : World} {v' : Value} {l : List Nat} {k N : Nat} {ob : Obj} (hown : w'.ownsRow w.heap.size 134 1 v' (0 + k) ([] ++ (l.take k).map u32V)) (hgrow : (w.alloc ob).grownBy w' (Value.slice (some ⟨w.heap.size, 0, none⟩) 0 0).ownBlock) (hz : ∀ i x, k ≤ i → l[i]? = some x → x = 0) (hs : ∀ x ∈ l, x < BB) (_hk : k ≤ l.length) (hN : k ≤ N) (ht : ∀ j, k = j + 1 → ∃ y, l[j]? = some y ∧ y ≠ 0) :
    IsNew w.heap.size w' v' (valN BB l) N ∧ Kp No w w' := by
  rw [Nat.zero_add, List.nil_append] at hown
  have hfr : FreshV w.heap.size v' := fun b hb => (own_ge hown hb).1
  obtain ⟨a, c, rfl, h1, h2, h3⟩ := own_form hown
  have hNA := NatAt.of_own hown (fun x hx => hs x (List.mem_of_mem_take hx))
  refine ⟨⟨⟨a, k, c, l.take k, rfl, hNA, valN_drop hz, hN, fun h => ?_, fun j hj => ?_⟩, hfr⟩, ?_⟩
  · subst h
    rcases hown.2 with ⟨e, _⟩ | ⟨g, _, _, e, _⟩
    · injection e with _ e1 e2
      exact ⟨e1, e2⟩
    · injection e with e1
      cases e1
  · obtain ⟨y, hy, hy0⟩ := ht j hj
    subst hj
    have e1 := valN_take BB l j y hy
    rw [valN_drop hz] at e1
    rw [e1]
    have := Nat.mul_le_mul_left (BB ^ j) (show 1 ≤ y by omega)
    omega
  · have hg : Kp (fun g => w.heap.size ≤ g) (w.alloc ob) w' := Kp.grown hgrow fun g hg _ => by
      have : g = w.heap.size := by
        simp [Value.ownBlock] at hg
        exact hg.symm
      omega
    exact (Kp.alloc No w ob).trans hg (fun k hk h => absurd hk (by omega))
set_option maxHeartbeats 2000000 in
theorem trim_any (A : Option Addr) (n cap : Nat) (l : List Nat) (w : World) (h : NatAt w A n l) (hn : n ≤ 1000000) (hnone : A = none → n = 0 ∧ cap = 0) (hcap : n ≤ cap) (hcm : cap ≤ maxLen) :
    Calls Tryz.prog 84 #[.slice A n cap] w fun e w' => ∃ v, e = .returned v ∧ IsNew w.heap.size w' v (valN BB l) n ∧ Kp No w w' := by
  obtain ⟨i0, hi, hz0, hz1, hz2⟩ := info_parts infoU
  have H := Lib.hid h
  have HN := Lib.hid hnone
  unfold maxLen at hcm
  clear h hnone
  go_enter Tryz.func84, Tryz.ntmps84
  go_wp2_with fail
  go_loop [3] (fun s => ∃ k : Nat, k ≤ n ∧ s = .int .i64 k ∧ ∀ i x, k ≤ i → l[i]? = some x → x = 0) (fun s => (intOf s).toNat)
  case atStart => exact ⟨n, by omega, rfl, fun i x h1 h2 => by
    have := (List.getElem?_eq_some_iff.1 h2).1
    have := H.out.len
    omega⟩
  case round =>
    obtain ⟨k, hk, rfl, hz⟩ := hrel
    have HZ := Lib.hid hz
    clear hz
    by_cases hpos : 0 < k
    · obtain ⟨j, rfl⟩ : ∃ j, k = j + 1 := ⟨k - 1, by omega⟩
      obtain ⟨x, hx⟩ : ∃ x, l[j]? = some x := ⟨_, List.getElem?_eq_getElem (by have := H.out.len; omega)⟩
      obtain ⟨b, o, rfl, hb, c0⟩ := H.out.at_ j x hx
      have HX := Lib.hid hx
      have hj0 : (0 : Int) ≤ (j : Int) := by omega
      have hjn : (j : Int) < (n : Int) := by omega
      have hp : (0 : Int) < (j : Int) + 1 := by omega
      have w0 : IntKind.i64.wrap (j : Int) = (j : Int) := by rw [IntKind.wrap_i64]; omega
      clear hx
      by_cases hx0 : x = 0
      · subst hx0
        go_wp2
        go_round
        case rel =>
          refine ⟨j, by omega, by go_num, fun i y h1 h2 => ?_⟩
          by_cases e : i = j
          · subst e
            rw [HX.out] at h2
            cases h2
            rfl
          · exact HZ.out i y (by omega) h2
        case measure => simp [intOf] <;> omega
      · have hne : ((x : Int) == 0) = false := by rw [beq_eq_false_iff_ne]; omega
        have HX0 := Lib.hid hx0
        clear hx0
        go_wp2_with (at_builtin; refine stop_in ?_)
        refine stop_out ?_
        refine wpL_append_any rfl _ _ 87 rfl w.heap.size 134 i0 (.int .u32 0) 1 4 Tryz.underlying87 hi hz0 hz1 hz2 rfl (by decide) (.slice (some ⟨w.heap.size, 0, none⟩) 0 0) 0 [] rfl (own_empty (Nat.le_refl _)) (some ⟨b, o, none⟩) (j + 1) cap ((l.take (j + 1)).map u32V) rfl (by rw [List.length_map, List.length_take]; have := H.out.len; omega) (fun h => by cases h) ?_ (fun u hu => by obtain ⟨x, _, rfl⟩ := List.mem_map.1 hu; rfl) (by unfold maxLen; omega) (by omega) (by simp) ?_
        · intro ad had i u hu
          cases had
          exact nat_news (H.out.no (Kp.alloc No _ _)) hu
        intro v' w' hown hgrow _
        have fin := trim_end (l := l) (k := j + 1) (N := n) hown hgrow (fun i x h1 h2 => HZ.out i x h1 h2) H.out.small (by have := H.out.len; omega) (by omega) (fun j' hj => ⟨x, by rw [show j' = j by omega]; exact HX.out, HX0.out⟩)
        have FIN := Lib.hid fin
        clear fin hown hgrow c0
        go_wp2
        go_ret
        exact ⟨v', rfl, FIN.out⟩
    · obtain rfl : k = 0 := by omega
      go_wp2_with (at_builtin; refine stop_in ?_)
      refine stop_out ?_
      refine wpL_append_any rfl _ _ 87 rfl w.heap.size 134 i0 (.int .u32 0) 1 4 Tryz.underlying87 hi hz0 hz1 hz2 rfl (by decide) (.slice (some ⟨w.heap.size, 0, none⟩) 0 0) 0 [] rfl (own_empty (Nat.le_refl _)) A 0 cap ((l.take 0).map u32V) rfl (by simp) (fun h => ⟨rfl, (HN.out h).2⟩) (fun ad had i u hu => by simp at hu) (fun u hu => by simp at hu) (by unfold maxLen; omega) (by omega) (by simp) ?_
      intro v' w' hown hgrow _
      have fin := trim_end (l := l) (k := 0) (N := n) hown hgrow (fun i x h1 h2 => HZ.out i x h1 h2) H.out.small (by omega) (by omega) (fun j hj => by omega)
      have FIN := Lib.hid fin
      clear fin hown hgrow
      go_wp2
      go_ret
      exact ⟨v', rfl, FIN.out⟩
set_option maxHeartbeats 2000000 in
theorem of_any (n : Nat) (w : World) (hn : n < 18446744073709551616) :
    Calls Tryz.prog 67 #[.int .u64 (n : Nat)] w fun e w' => ∃ v, e = .returned v ∧ IsNew w.heap.size w' v n 2 ∧ Kp No w w' := by
  have hlo : n % BB < BB := Nat.mod_lt _ (by unfold BB; omega)
  have hhi : n / BB < BB := Nat.div_lt_of_lt_mul (by unfold BB; omega)
  have hv : valN BB [n % BB, n / BB] = n := by
    simp only [valN, Nat.mul_zero, Nat.add_zero]
    exact Nat.mod_add_div n BB
  have T := fun g (w0 : World) (h : w0.heap[g]? = some (.cells #[u32V (n % BB), u32V (n / BB)] 134 (0, 0))) => trim_any (some ⟨g, 0, none⟩) 2 2 [n % BB, n / BB] w0
    ⟨rfl, fun i x hx => by
      match i, hx with
      | 0, hx => simp at hx; subst hx; exact ⟨g, 0, rfl, (Array.getElem?_eq_some_iff.1 h).1, by rw [cell_of_row _ _ _ _ _ _ h]; rfl⟩
      | 1, hx => simp at hx; subst hx; exact ⟨g, 0, rfl, (Array.getElem?_eq_some_iff.1 h).1, by rw [cell_of_row _ _ _ _ _ _ h]; rfl⟩
      | k + 2, hx => simp at hx, fun x hx => by simp at hx; rcases hx with rfl | rfl <;> assumption⟩ (by omega) (fun h => by cases h) (by omega) (by unfold maxLen; omega)
  rw [hv] at T
  have T := Lib.hid T
  have e1 : ((n : Int) % 4294967296) = ((n % BB : Nat) : Int) := by unfold BB; omega
  have e2 : ((n : Int) / 4294967296) = ((n / BB : Nat) : Int) := by unfold BB; omega
  have f1 : (n : Int).tmod 4294967296 = ((n % BB : Nat) : Int) := by rw [Int.tmod_eq_emod_of_nonneg (by omega)]; exact e1
  have f2 : (n : Int).tdiv 4294967296 = ((n / BB : Nat) : Int) := by rw [Int.tdiv_eq_ediv_of_nonneg (by omega)]; exact e2
  have w1 : IntKind.u32.wrap ((n % BB : Nat) : Int) = ((n % BB : Nat) : Int) := by unfold BB at hlo ⊢; rw [IntKind.wrap_u32]; omega
  have w2 : IntKind.u32.wrap ((n / BB : Nat) : Int) = ((n / BB : Nat) : Int) := by unfold BB at hhi ⊢; rw [IntKind.wrap_u32]; omega
  have w3 : IntKind.u64.wrap ((n / BB : Nat) : Int) = ((n / BB : Nat) : Int) := by unfold BB at hhi ⊢; rw [IntKind.wrap_u64]; omega
  unfold u32V at T
  generalize ((n % BB : Nat) : Int) = a at *
  generalize ((n / BB : Nat) : Int) = b at *
  generalize hN : ((n : Nat) : Int) = N at *
  clear hlo hhi hv hn hN
  go_enter Tryz.func67, Tryz.ntmps67
  generalize hB : (4294967296 : Int) = B at *
  have HB := Lib.hid hB
  clear hB
  have hB0 : (B == 0) = false := by rw [← HB.out]; rfl
  have hB1 : ¬ B = 0 := by rw [← HB.out]; decide
  go_wp2_with fail
  refine (T.out _ _ (heap_alloc_new w _)).mono ?_
  rintro e w' ⟨v, rfl, hv, hk⟩
  have HV := Lib.hid hv
  clear hv
  go_wp2_with fail
  go_ret
  exact ⟨v, rfl, ⟨HV.out.1, HV.out.2.mono (by simp)⟩, (Kp.alloc No w _).tr hk⟩
/-- How two numbers are ordered. -/
def cmpN (a b : Nat) : Int := if a < b then -1 else if b < a then 1 else 0
set_option maxHeartbeats 2000000 in
theorem order_num (A B : Option Addr) (n m ca cb : Nat) (a b : List Nat) (w : World) (ha : NatAt w A n a) (hb : NatAt w B m b) (hn : n ≤ 1000000) (hm : m ≤ 1000000) :
    Calls Tryz.prog 85 #[.slice A n ca, .slice B m cb] w fun e w' => e = .returned (.int .i64 (cmpN (valN BB a) (valN BB b))) ∧ w = w' := by
  have hBB : 0 < BB := by unfold BB; omega
  have hal := ha.len
  have hbl := hb.len
  have LA := Lib.hid (fun i w0 (h : w = w0) => limb_any A n ca i a w0 (h ▸ ha) hn)
  have LB := Lib.hid (fun i w0 (h : w = w0) => limb_any B m cb i b w0 (h ▸ hb) hm)
  have HA := Lib.hid ha
  have HB := Lib.hid hb
  obtain ⟨x, hx⟩ : ∃ x, x = max n m := ⟨_, rfl⟩
  have hmax : max (n : Int) (m : Int) = (x : Int) := by omega
  have hxw : IntKind.i64.wrap ((x : Int) - 1) = (x : Int) - 1 := by rw [IntKind.wrap_i64]; omega
  have hx1 : n ≤ x ∧ m ≤ x ∧ x ≤ 1000000 := by omega
  obtain ⟨z, hz⟩ : ∃ z, cmpN (valN BB a) (valN BB b) = z := ⟨_, rfl⟩
  rw [hz]
  have HZ := Lib.hid hz
  have HX := Lib.hid hx
  clear ha hb hx hz
  by_cases hnm : (n : Int) < (m : Int)
  all_goals
    go_enter Tryz.func85, Tryz.ntmps85
    go_wp2_with fail
    clear hmax hxw
    go_loop [5] (fun i => ∃ j : Nat, j ≤ x ∧ i = .int .i64 ((j : Int) - 1) ∧ ∀ t, j ≤ t → limN a t = limN b t) (fun i => ((intOf i) + 1).toNat)
    case atStart => exact ⟨x, by omega, by have := HX.out; congr 1 <;> omega, fun t ht => by rw [limN_none (by omega), limN_none (by omega)]⟩
    case round =>
      obtain ⟨j, hj, rfl, he⟩ := hrel
      have HE := Lib.hid he
      clear he
      by_cases h0 : j = 0
      · subst h0
        have hzz : z = 0 := by
          rw [← HZ.out, valN_eq (B := BB) (fun i => HE.out i (by omega))]
          unfold cmpN
          rw [if_neg (by omega), if_neg (by omega)]
        subst hzz
        go_wp2
        go_ret
        exact ⟨rfl, rfl⟩
      · obtain ⟨k, rfl⟩ : ∃ k, j = k + 1 := ⟨j - 1, by omega⟩
        have hk0 : (0 : Int) ≤ (k : Int) := by omega
        have hw1 : IntKind.i64.wrap ((k : Int) - 1) = (k : Int) - 1 := by rw [IntKind.wrap_i64]; omega
        have hlt1 := limN_lt hBB HA.out.small k
        have hlt2 := limN_lt hBB HB.out.small k
        have c1 := fun h => valN_cmp hBB HA.out.small HB.out.small k (fun i hi => HE.out i (by omega)) h
        have c2 := fun h => valN_cmp hBB HB.out.small HA.out.small k (fun i hi => (HE.out i (by omega)).symm) h
        have C1 := Lib.hid c1
        have C2 := Lib.hid c2
        have L1 := Lib.hid (LA.out k w rfl)
        have L2 := Lib.hid (LB.out k w rfl)
        obtain ⟨p, hp⟩ : ∃ p, limN a k = p := ⟨_, rfl⟩
        obtain ⟨q, hq⟩ : ∃ q, limN b k = q := ⟨_, rfl⟩
        rw [hp] at L1 C1 C2
        rw [hq] at L2 C1 C2
        have HPQ := Lib.hid (And.intro hp hq)
        clear hlt1 hlt2 c1 c2 hp hq h0
        rcases Nat.lt_trichotomy p q with h | h | h
        · have hzz : z = -1 := by
            rw [← HZ.out]
            unfold cmpN
            rw [if_pos (C1.out h)]
          subst hzz
          have d1 : decide (p < q) = true := decide_eq_true h
          clear C1 C2 HZ
          go_wp2_with fail
          refine L1.out.mono ?_
          rintro e w' ⟨rfl, rfl⟩
          go_wp2_with fail
          refine L2.out.mono ?_
          rintro e w' ⟨rfl, rfl⟩
          go_wp2_with fail
          go_ret
          exact ⟨rfl, rfl⟩
        · have d1 : decide (p < q) = false := decide_eq_false (by omega)
          have d2 : decide (q < p) = false := decide_eq_false (by omega)
          have hpq := h
          have HE2 := Lib.hid (show ∀ t, k ≤ t → limN a t = limN b t from fun t ht => by
            by_cases e : t = k
            · rw [e, HPQ.out.1, HPQ.out.2, hpq]
            · exact HE.out t (by omega))
          clear C1 C2 hpq h
          go_wp2_with fail
          refine L1.out.mono ?_
          rintro e w' ⟨rfl, rfl⟩
          go_wp2_with fail
          refine L2.out.mono ?_
          rintro e w' ⟨rfl, rfl⟩
          go_wp2_with fail
          refine L1.out.mono ?_
          rintro e w' ⟨rfl, rfl⟩
          go_wp2_with fail
          refine L2.out.mono ?_
          rintro e w' ⟨rfl, rfl⟩
          go_wp2_with fail
          go_round
          case rel => exact ⟨k, by omega, rfl, HE2.out⟩
          case measure => simp [intOf] <;> omega
        · have hzz : z = 1 := by
            rw [← HZ.out]
            unfold cmpN
            have := C2.out h
            rw [if_neg (by omega), if_pos this]
          subst hzz
          have d1 : decide (p < q) = false := decide_eq_false (by omega)
          have d2 : decide (q < p) = true := decide_eq_true h
          clear C1 C2 HZ
          go_wp2_with fail
          refine L1.out.mono ?_
          rintro e w' ⟨rfl, rfl⟩
          go_wp2_with fail
          refine L2.out.mono ?_
          rintro e w' ⟨rfl, rfl⟩
          go_wp2_with fail
          refine L1.out.mono ?_
          rintro e w' ⟨rfl, rfl⟩
          go_wp2_with fail
          refine L2.out.mono ?_
          rintro e w' ⟨rfl, rfl⟩
          go_wp2_with fail
          go_ret
          exact ⟨rfl, rfl⟩
theorem make_us (k : Nat) (z : Int) (hz : z = (k : Int)) (hk : k ≤ 100000) (w : World) : (Instr.makeSlice 87 (.int .i64 z) (.int .i64 z)).run Tryz.prog w = .ok (.slice (some ⟨w.heap.size, 0, none⟩) k k) (w.alloc (.cells ((List.replicate k 0).map u32V).toArray 134)) := by
  obtain ⟨i0, hi, hz0, hz1, hz2⟩ := info_parts infoU
  subst hz
  have := run_make_flat w (fun x : Nat => [u32V x]) 0 _ _ i0 _ 1 4 k Tryz.underlying87 hi hz0 hz1 hz2 (by decide) rfl rfl (by omega) (by omega)
  have e : ∀ l : List Nat, l.flatMap (fun x => [u32V x]) = l.map u32V := fun l => by
    induction l with
    | nil => rfl
    | cons x l ih => rw [List.flatMap_cons, ih]; rfl
  rwa [e] at this
/-- The row while the product is made. -/
structure MulR (w : World) (N : Nat) (out : List Nat) (wr : World) : Prop where
  len : out.length = N
  small : ∀ x ∈ out, x < BB
  own : wr.ownsRow w.heap.size 134 1 (.slice (some ⟨w.heap.size, 0, none⟩) N N) N (out.map u32V)
  kp : Kp No w wr
theorem MulR.set {w wr : World} {N : Nat} {out : List Nat} (h : MulR w N out wr) (j x : Nat) (hx : x < BB) : MulR w N (out.set j x) (wr.setCell ⟨w.heap.size, j, none⟩ (u32V x)) :=
  ⟨by rw [List.length_set]; exact h.len, fun y hy => by
    rcases List.mem_or_eq_of_mem_set hy with h1 | h1
    · exact h.small y h1
    · rw [h1]; exact hx, by
    have := own_set h.own j (u32V x)
    rwa [← List.map_set] at this, h.kp.trans (kp_setOne wr w.heap.size j (u32V x)) (fun k hk e => by unfold Kq.One at e; omega)⟩
theorem MulR.drew {w wr : World} {N : Nat} {out : List Nat} (h : MulR w N out wr) (q : Nat) : MulR w N out (wr.drewN q) :=
  ⟨h.len, h.small, own_kp h.own (Kp.drewN No _ _) (fun _ _ h => h), h.kp.tr (Kp.drewN _ _ _)⟩
theorem end_carry {out : List Nat} {N c T : Nat} (hI : valN BB out + c * BB ^ N = T) (hT : T < BB ^ N) : c = 0 ∧ valN BB out = T := by
  rcases Nat.eq_zero_or_pos c with h | h
  · subst h
    omega
  · have := Nat.mul_le_mul_right (BB ^ N) h
    omega
theorem prod_lt {a b : List Nat} (ha : ∀ x ∈ a, x < BB) (hb : ∀ x ∈ b, x < BB) (k : Nat) : valN BB (a.take k) * valN BB b < BB ^ (k + b.length) ∨ valN BB (a.take k) * valN BB b = 0 := by
  have hBB : 0 < BB := by unfold BB; omega
  have h1 := valN_lt hBB (a.take k) fun x hx => ha x (List.mem_of_mem_take hx)
  have h2 := valN_lt hBB b hb
  have h3 : BB ^ (a.take k).length ≤ BB ^ k := Nat.pow_le_pow_right hBB (by rw [List.length_take]; omega)
  left
  rw [Nat.pow_add]
  exact Nat.mul_lt_mul'' (Nat.lt_of_lt_of_le h1 h3) h2
set_option maxHeartbeats 1000000 in
set_option maxRecDepth 100000 in
theorem times_num (A B : Option Addr) (n m ca cb : Nat) (a b : List Nat) (w : World) (ha : NatAt w A n a) (hb : NatAt w B m b) (hn : n ≤ 10000) (hm : m ≤ 10000) :
    Calls Tryz.prog 66 #[.slice A n ca, .slice B m cb] w fun e w' => ∃ v, e = .returned v ∧ IsNew w.heap.size w' v (valN BB a * valN BB b) (n + m + 1) ∧ Kp No w w' := by
  have hBB : 0 < BB := by unfold BB; omega
  have hal := ha.len
  have hbl := hb.len
  have LA := Lib.hid (fun i w0 (h : Kp No w w0) => limb_any A n ca i a w0 (ha.no h) (by omega))
  have LB := Lib.hid (fun i w0 (h : Kp No w w0) => limb_any B m cb i b w0 (hb.no h) (by omega))
  have HA := Lib.hid ha
  have HB := Lib.hid hb
  have hmk := make_us (n + m + 1) ((n : Int) + (m : Int) + 1) (by omega) (by omega)
  obtain ⟨N, hN⟩ : ∃ N, N = n + m + 1 := ⟨_, rfl⟩
  rw [← hN] at hmk ⊢
  have HN := Lib.hid hN
  clear ha hb hN
  go_enter Tryz.func66, Tryz.ntmps66
  generalize hC : (4294967296 : Int) = CC at *
  have HC := Lib.hid hC
  clear hC
  have hC0 : (CC == 0) = false := by rw [← HC.out]; rfl
  have hC1 : ¬ CC = 0 := by rw [← HC.out]; decide
  go_wp2_with fail
  clear hmk
  go_loopw [6] (fun i wr => ∃ (k : Nat) (out : List Nat), k ≤ n ∧ i = .int .i64 k ∧ MulR w N out wr ∧ valN BB out = valN BB (a.take k) * valN BB b) (fun i _ => n - (intOf i).toNat)
  case atStart =>
    refine ⟨0, List.replicate N 0, by omega, rfl, ⟨by simp, fun x hx => by rw [(List.mem_replicate.1 hx).2]; exact hBB, ?_, Kp.alloc _ _ _⟩, by rw [valN_zeros]; simp [valN]⟩
    have h := own_made w (e := 134) (n := N) (s := 1) (base := w.heap.size) (xs := (List.replicate N 0).map u32V) (by simp) (by omega) (by have := HN.out; unfold maxLen; omega)
    simpa using h
  case round =>
    obtain ⟨k, out, hk, rfl, hR, hV⟩ := hrel
    obtain ⟨wo, rfl⟩ : ∃ wo : World, wo = wr := ⟨_, rfl⟩
    have HR := Lib.hid hR
    have HV := Lib.hid hV
    clear hR hV
    by_cases hlt : k < n
    · have hNk : n + m + 1 ≤ N := by have := HN.out; omega
      have hNu : N ≤ n + m + 1 := by have := HN.out; omega
      go_wp2_with fail
      go_loopw [7, 8] (fun c j wq => ∃ (t cc : Nat) (o2 : List Nat), t ≤ m + 1 ∧ j = .int .i64 t ∧ c = .int .u64 (cc : Nat) ∧ cc < BB ∧ MulR w N o2 wq ∧ valN BB o2 + cc * BB ^ (k + t) = valN BB (a.take k) * valN BB b + BB ^ k * (limN a k * valN BB (b.take t))) (fun _ j _ => m + 1 - (intOf j).toNat)
      case atStart => exact ⟨0, 0, out, by omega, rfl, rfl, hBB, HR.out, by rw [HV.out]; simp [valN]⟩
      case round =>
        obtain ⟨t, cc, o2, ht, rfl, rfl, hcc, hR2, hV2⟩ := hrel
        have HR2 := Lib.hid hR2
        have HV2 := Lib.hid hV2
        clear hR2 hV2
        by_cases htm : t < m + 1
        · obtain ⟨z, hz⟩ : ∃ z, o2[k + t]? = some z := ⟨_, List.getElem?_eq_getElem (by have := HR2.out.len; omega)⟩
          have hzs := HR2.out.small z (List.mem_of_getElem? hz)
          have hxs := limN_lt hBB HA.out.small k
          have hys := limN_lt hBB HB.out.small t
          have LX := LA.out k
          have LY := LB.out t
          have MS := mul_step (B := BB) (x := limN a k) (y := limN b t) hz HV2.out rfl hBB
          have ML := mul_small hxs hys hzs hcc
          have hbt := valN_takeL BB b t
          have zc := own_cell HR2.out.own (j := k + t) (u := u32V z) (by rw [List.getElem?_map, hz]; rfl)
          have zf := own_free HR2.out.own (k + t)
          generalize limN a k = x at *
          generalize limN b t = y at *
          unfold u32V at zc
          have hV64 : z + x * y + cc < 18446744073709551616 := by
            have := ML.1
            unfold BB at this
            omega
          have p1 : IntKind.u64.wrap ((x : Int) * (y : Int)) = ((x * y : Nat) : Int) := by rw [← Int.natCast_mul, IntKind.wrap_u64]; omega
          have p2 : IntKind.u64.wrap ((z : Int) + ((x * y : Nat) : Int)) = ((z + x * y : Nat) : Int) := by rw [IntKind.wrap_u64]; omega
          have p3 : IntKind.u64.wrap (((z + x * y : Nat) : Int) + (cc : Int)) = ((z + x * y + cc : Nat) : Int) := by rw [IntKind.wrap_u64]; omega
          have hRl : (z + x * y + cc) % BB < BB := Nat.mod_lt _ hBB
          have MR := Lib.hid (fun wq (h : MulR w N o2 wq) => h.set (k + t) ((z + x * y + cc) % BB) hRl)
          have MS := Lib.hid MS
          have ML2 := Lib.hid ML.2
          have HBT := Lib.hid hbt
          have hzw : IntKind.u64.wrap (z : Int) = (z : Int) := by unfold BB at hzs; rw [IntKind.wrap_u64]; omega
          obtain ⟨V, hVV⟩ : ∃ V, V = z + x * y + cc := ⟨_, rfl⟩
          rw [← hVV] at p3 MR MS ML2 hRl hV64
          have r1 : (V : Int) % CC = ((V % BB : Nat) : Int) := by rw [← HC.out]; unfold BB; omega
          have r2 : (V : Int) / CC = ((V / BB : Nat) : Int) := by rw [← HC.out]; unfold BB; omega
          have r3 : (V : Int).tmod CC = ((V % BB : Nat) : Int) := by rw [Int.tmod_eq_emod_of_nonneg (by omega)]; exact r1
          have r4 : (V : Int).tdiv CC = ((V / BB : Nat) : Int) := by rw [Int.tdiv_eq_ediv_of_nonneg (by omega)]; exact r2
          have q1 : IntKind.u32.wrap ((V % BB : Nat) : Int) = ((V % BB : Nat) : Int) := by unfold BB at hRl ⊢; rw [IntKind.wrap_u32]; omega
          have q2 : IntKind.u64.wrap ((V / BB : Nat) : Int) = ((V / BB : Nat) : Int) := by
            have h1 : V / BB < 18446744073709551616 := Nat.lt_of_le_of_lt (Nat.div_le_self _ _) hV64
            generalize V / BB = d at h1 ⊢
            rw [IntKind.wrap_u64]
            omega
          have q3 : IntKind.u64.wrap ((V % BB : Nat) : Int) = ((V % BB : Nat) : Int) := by
            have h1 : V % BB < 18446744073709551616 := Nat.lt_of_le_of_lt (Nat.mod_le _ _) hV64
            generalize V % BB = d at h1 ⊢
            rw [IntKind.wrap_u64]
            omega
          unfold u32V at MR
          have LX := Lib.hid LX
          have KD := Lib.hid (show ∀ q, Kp No w (wr.drewN q) from fun q => (HR2.out.drew q).kp)
          have LY := Lib.hid LY
          have HVV := Lib.hid hVV
          clear hzs hxs hys ML hbt hz hV64 hRl hVV
          generalize ((V % BB : Nat) : Int) = R at *
          obtain ⟨D, hD⟩ : ∃ D : Int, ((V / BB : Nat) : Int) = D := ⟨_, rfl⟩
          rw [hD] at r2 r4 q2
          have HD := Lib.hid hD
          clear hD
          generalize ((V : Nat) : Int) = VI at *
          generalize ((z + x * y : Nat) : Int) = QI at *
          generalize ((x * y : Nat) : Int) = PI at *
          generalize ((x : Nat) : Int) = XI at *
          generalize ((y : Nat) : Int) = YI at *
          generalize ((z : Nat) : Int) = ZI at *
          have hcc2 := Lib.hid hcc
          obtain ⟨CI, hCI⟩ : ∃ CI : Int, ((cc : Nat) : Int) = CI := ⟨_, rfl⟩
          rw [hCI] at p3 ⊢
          clear hCI hcc
          have hk0 : (0 : Int) ≤ (k : Int) := by omega
          have ht0 : (0 : Int) ≤ (t : Int) := by omega
          have hkt : IntKind.i64.wrap ((k : Int) + (t : Int)) = (k : Int) + (t : Int) := by rw [IntKind.wrap_i64]; omega
          have hkt0 : (0 : Int) ≤ (k : Int) + (t : Int) := by omega
          have hktN : (k : Int) + (t : Int) < (N : Int) := by omega
          have hktt : ((k : Int) + (t : Int)).toNat = k + t := by omega
          have htm1 : (t : Int) < (m : Int) + 1 := by omega
          have hm1 : IntKind.i64.wrap ((m : Int) + 1) = (m : Int) + 1 := by rw [IntKind.wrap_i64]; omega
          go_wp2_with fail
          go_quiet (first | (go_at_call 83; with_reducible exact Calls.quiet_of_same (LX.out _ (KD.out _))) | (go_at_call 83; with_reducible exact Calls.quiet_of_same (LY.out _ (KD.out _))))
          have zc2 : (wr.drewN nq).cell? ⟨w.heap.size, k + t, none⟩ = some (.int .u32 ZI) := zc
          have zf2 : (wr.drewN nq).frozen? ⟨w.heap.size, k + t, none⟩ = false := zf
          have MR2 := Lib.hid (MR.out _ (HR2.out.drew nq))
          clear zc zf MR
          generalize wr.drewN nq = wq at *
          go_wp2_with fail
          go_round
          case rel =>
            refine ⟨t + 1, V / BB, o2.set (k + t) (V % BB), by omega, by go_num, by rw [HD.out], ML2.out, MR2.out, ?_⟩
            have e1 := MS.out
            rw [e1, HBT.out, Nat.mul_add x, Nat.mul_add (BB ^ k), Nat.pow_add, ← Nat.add_assoc, Nat.mul_left_comm x, Nat.mul_assoc (BB ^ k)]
          case measure => simp [intOf] <;> omega
        · obtain rfl : t = m + 1 := by omega
          have htm0 : ¬ ((m : Int) + 1 < (m : Int) + 1) := by omega
          have hm1 : IntKind.i64.wrap ((m : Int) + 1) = (m : Int) + 1 := by rw [IntKind.wrap_i64]; omega
          have hk1 : IntKind.i64.wrap ((k : Int) + 1) = (k : Int) + 1 := by rw [IntKind.wrap_i64]; omega
          go_wp2_with fail
          go_round
          case rel =>
            refine ⟨k + 1, o2, by omega, by go_num, HR2.out, ?_⟩
            have e1 := HV2.out
            rw [List.take_of_length_le (by rw [hbl]; omega : b.length ≤ m + 1), ← Nat.mul_assoc, ← Nat.add_mul, ← valN_takeL] at e1
            refine (end_carry e1 ?_).2
            rcases prod_lt HA.out.small HB.out.small (k + 1) with h | h
            · rwa [hbl, show k + 1 + m = k + (m + 1) by omega] at h
            · rw [h]
              exact Nat.pow_pos hBB
          case measure => simp [intOf] <;> omega
    · obtain rfl : k = n := by omega
      have hkk : ¬ ((k : Int) < (k : Int)) := by omega
      have TR := trim_any (some ⟨w.heap.size, 0, none⟩) N N out wo (NatAt.of_own HR.out.own HR.out.small) (by have := HN.out; omega) (fun h => by cases h) (Nat.le_refl _) (by have := HN.out; unfold maxLen; omega)
      rw [HV.out, List.take_of_length_le (by omega)] at TR
      have KW := Lib.hid HR.out.kp
      have TR := Lib.hid TR
      go_wp2_with (go_at_call 84; refine TR.out.mono ?_; rintro _ w' ⟨v, rfl, hv, hkp⟩)
      go_ret
      exact ⟨v, rfl, ⟨hv.1, hv.2.mono KW.out.size⟩, KW.out.trans hkp (fun _ _ h => h)⟩
end Go.Proofs.YtakgcnjpmpcekaaGreat
