/- Chapter 24: a division by its numbers: what the document's Divided fills. · A slot that one operation of a region writes, ahead of it. No program in sight. · A region that draws its order, calls what writes nothing, and stores one cell: an invariant for wp_region_each. No program in sight. -/
import Derived.Test.YtakgcnjpmpcekaaXRfE
import Derived.Test.YtakgcnjpmpcekaaXPnD
import Derived.Test.YtakgcnjpmpcekaaXLibReg
import Derived.Test.YtakgcnjpmpcekaaXLibHmM
namespace Go.Proofs.Ytakgcnjpmpcekaa
open Go.RowKit Go.Kq

/-- One more number behind a row of a table. -/
theorem rw_push {w wr w' : World} {gr L i n c n' c' g' : Nat} {A : Option Addr} {Ls : List (List Int)} {S S' : List Int} (hk : Kp No w wr) (h : RwM w.heap.size wr gr L Ls) (hS : Ls[i]? = some S) (hv : wr.cell? ⟨gr, i, none⟩ = some (.slice A n c)) (ho : OwI wr w.heap.size (.slice A n c) S)
    (ho' : OwI w' w.heap.size (.slice (some ⟨g', 0, none⟩) n' c') S') (k' : Kp (fun b => A = some ⟨b, 0, none⟩) wr w') (hat : A = some ⟨g', 0, none⟩ ∨ wr.heap.size ≤ g') :
    RwM w.heap.size (w'.setCell ⟨gr, i, none⟩ (.slice (some ⟨g', 0, none⟩) n' c')) gr L (Ls.set i S') ∧ Kp No w (w'.setCell ⟨gr, i, none⟩ (.slice (some ⟨g', 0, none⟩) n' c')) ∧ (∃ u, w'.cell? ⟨gr, i, none⟩ = some u) ∧ w'.frozen? ⟨gr, i, none⟩ = false := by
  obtain ⟨v, d4, d5, _, _, hgl⟩ := h.cell hS
  have hne : ¬ A = some ⟨gr, 0, none⟩ := fun e => by
    have hb := (own_block (b := gr) ho).2 e
    obtain ⟨cs, m, hh⟩ := own_int ho hb
    obtain ⟨_, _, us, h5, _⟩ := h
    rw [h5] at hh
    injection hh with hh
    injection hh with _ hh _
    exact absurd hh (by decide)
  have hkv : Kp (fun b => (Value.slice A n c).ownBlock = some b) wr w' := k'.mono fun b _ e => (own_block ho).2 e
  have hatv : (Value.slice (some ⟨g', 0, none⟩) n' c').ownBlock = (Value.slice A n c).ownBlock ∨ ∀ b, (Value.slice (some ⟨g', 0, none⟩) n' c').ownBlock = some b → wr.heap.size ≤ b := by
    rcases hat with hat | hat
    · left
      rw [(own_block ho).2 hat]
      rfl
    · right
      intro b hb
      have hb : some g' = some b := hb
      injection hb with hb
      omega
  obtain ⟨r1, r2⟩ := h.set hS hv hkv ho' hatv
  refine ⟨r1, ?_, ⟨_, k'.cell hv hne⟩, by rw [k'.frozen hgl hne]; exact d5⟩
  have K : Kp (fun b => w.heap.size ≤ b) wr w' := hkv.mono fun b _ e => (own_ge ho e).1
  have K2 : Kp (fun b => w.heap.size ≤ b) w' (w'.setCell ⟨gr, i, none⟩ (.slice (some ⟨g', 0, none⟩) n' c')) := r2.mono fun b _ e => by
    have e : b = gr := e
    have := h.hg
    omega
  exact hk.trans (K.tr K2) fun k hk e => by
    have e : w.heap.size ≤ k := e
    omega
/-- A field's pipes, before they stand. -/
def rawN (L : Nat) (ns : List Nat) (i : Nat) : List Nat := (List.range (ns.getD (grpN L i) 0)).map fun x => atN L ns (grpN L i) + sizN L (grpN L i) * x + (if rgtB L i then 1 else 0)
theorem fld_raw (l : List Fc) (ns : List Nat) (i : Nat) : fldN l ns i = (staN (ns.getD (grpN l.length i) 0) (l.getD i default).k (rgtB l.length i)).map fun x => (rawN l.length ns i).getD x 0 := by
  unfold fldN
  refine List.map_congr_left fun x hx => ?_
  have hlt := sta_lt hx
  unfold rawN
  rw [List.getD_eq_getElem?_getD, List.getElem?_map, List.getElem?_range hlt]
  rfl
theorem raw_left {L : Nat} (ns : List Nat) {k : Nat} (hk : k < (L + 1) / 2) : rawN L ns (lefN L k) = (List.range (ns.getD k 0)).map fun x => atN L ns k + sizN L k * x := by
  have hl := lef_lt hk
  unfold rawN
  rw [(grp_iff hl.1 hk).2 (.inl rfl), rgt_left hk]
  rfl
theorem raw_right {L : Nat} (ns : List Nat) {k : Nat} (hk : k < (L + 1) / 2) (hs : ¬ sizN L k = 1) : rawN L ns (L - 1 - lefN L k) = (List.range (ns.getD k 0)).map fun x => atN L ns k + sizN L k * x + 1 := by
  have hl := lef_lt hk
  unfold rawN
  rw [(grp_iff hl.2.1 hk).2 (.inr rfl), rgt_right hs]
  rfl
/-- Are these all pipes? -/
def dvJ (L n : Nat) : Nat → Nat → List Int → Bool
  | 0, at_, [] => decide (at_ = n)
  | 0, _, _ :: _ => false
  | _ + 1, _, [] => false
  | j + 1, at_, x :: ns => decide (1 ≤ x) && decide (at_ + sizN L ((L + 1) / 2 - (j + 1)) * x.toNat ≤ n) && dvJ L n j (at_ + sizN L ((L + 1) / 2 - (j + 1)) * x.toNat) ns
theorem dvJ_nat (L n : Nat) : ∀ (j at_ : Nat) (ns : List Nat), dvJ L n j at_ (cI ns) = dvN L n j at_ ns
  | 0, _, [] => rfl
  | 0, _, _ :: _ => rfl
  | _ + 1, _, [] => rfl
  | j + 1, at_, x :: ns => by
    have ih := dvJ_nat L n j (at_ + sizN L ((L + 1) / 2 - (j + 1)) * x) ns
    show (decide ((1 : Int) ≤ (x : Int)) && _ && dvJ L n j _ (cI ns)) = _
    rw [Int.toNat_natCast, ih]
    have e : decide ((1 : Int) ≤ (x : Int)) = decide (1 ≤ x) := by rw [decide_eq_decide]; omega
    rw [e]
    rfl
theorem dvJ_step {L n k at_ : Nat} {nums : List Int} {x : Int} (hk : k < (L + 1) / 2) (hx : nums[k]? = some x) : dvJ L n ((L + 1) / 2 - k) at_ (nums.drop k) = (decide (1 ≤ x) && decide (at_ + sizN L k * x.toNat ≤ n) && dvJ L n ((L + 1) / 2 - (k + 1)) (at_ + sizN L k * x.toNat) (nums.drop (k + 1))) := by
  obtain ⟨j, hj⟩ : ∃ j, (L + 1) / 2 - k = j + 1 := ⟨(L + 1) / 2 - k - 1, by omega⟩
  have hl := (List.getElem?_eq_some_iff.1 hx).1
  rw [hj, List.drop_eq_getElem_cons hl]
  have e : nums[k] = x := by
    rw [List.getElem?_eq_getElem hl] at hx
    exact Option.some.inj hx
  rw [e, show (L + 1) / 2 - (k + 1) = j by omega]
  show (decide (1 ≤ x) && decide (at_ + sizN L ((L + 1) / 2 - (j + 1)) * x.toNat ≤ n) && dvJ L n j (at_ + sizN L ((L + 1) / 2 - (j + 1)) * x.toNat) _) = _
  rw [show (L + 1) / 2 - (j + 1) = k by omega]
theorem dvJ_short {L n k at_ : Nat} {nums : List Int} (hk : k < (L + 1) / 2) (h : nums.length ≤ k) : dvJ L n ((L + 1) / 2 - k) at_ (nums.drop k) = false := by
  obtain ⟨j, hj⟩ : ∃ j, (L + 1) / 2 - k = j + 1 := ⟨(L + 1) / 2 - k - 1, by omega⟩
  rw [hj, List.drop_of_length_le h]
  rfl
theorem dvJ_end {L n at_ : Nat} {nums : List Int} {k : Nat} (h : k ≤ nums.length) : dvJ L n 0 at_ (nums.drop k) = (decide (at_ = n) && decide (k = nums.length)) := by
  rcases Nat.lt_or_ge k nums.length with h1 | h1
  · rw [List.drop_eq_getElem_cons h1]
    have : decide (k = nums.length) = false := by simp; omega
    rw [this, Bool.and_false]
    rfl
  · have e : k = nums.length := by omega
    rw [List.drop_of_length_le h1]
    have : decide (k = nums.length) = true := by simp [e]
    rw [this, Bool.and_true]
    rfl
theorem at_succ {L : Nat} {nums : List Int} {k : Nat} {x : Int} (hx : nums[k]? = some x) : atN L (nums.map Int.toNat) (k + 1) = atN L (nums.map Int.toNat) k + sizN L k * x.toNat := by
  show atN L _ k + sizN L k * (nums.map Int.toNat).getD k 0 = _
  rw [List.getD_eq_getElem?_getD, List.getElem?_map, hx]
  rfl
theorem num_get {nums : List Int} {k : Nat} {x : Int} (hx : nums[k]? = some x) : (nums.map Int.toNat).getD k 0 = x.toNat := by
  rw [List.getD_eq_getElem?_getD, List.getElem?_map, hx]
  rfl
theorem range_map_take {β : Type} (f : Nat → β) {n i : Nat} (h : i ≤ n) : ((List.range n).map f).take i = (List.range i).map f := by
  rw [← List.map_take, List.take_range]
  congr 2
  omega
theorem range_snoc (f : Nat → Nat) (i : Nat) : cI ((List.range (i + 1)).map f) = cI ((List.range i).map f) ++ [((f i : Nat) : Int)] := by
  rw [List.range_succ, List.map_append, List.map_cons, List.map_nil, cI_snoc]
/-- What Divided answers. -/
def DivR (l : List Fc) (m : Nat) (nums : List Int) (w : World) (e : Ending) (w' : World) : Prop := Kp No w w' ∧
  ((dvJ l.length m ((l.length + 1) / 2) 0 nums = false ∧ e = .returned (.tuple #[.slice none 0 0, .bool false])) ∨
   (dvJ l.length m ((l.length + 1) / 2) 0 nums = true ∧ ∃ g, e = .returned (.tuple #[.slice (some ⟨g, 0, none⟩) l.length l.length, .bool true]) ∧ RwM w.heap.size w' g l.length (intP (planN l (nums.map Int.toNat)))))
end Go.Proofs.Ytakgcnjpmpcekaa

namespace Go.Kq
open Go.RowKit

def freeButB (l : List Oper) (t : Tmp) (i : Nat) : Bool := (List.range l.length).all fun j => decide (j = i) || (match l[j]? with | some o => (match o.dst with | some d => decide (d ≠ t) | none => true) | none => true)
theorem Fr.evalYet {a0 a : Act} {r : Nat → Option Value} {l : List Oper} (h : Fr l.toArray a0 r a) {t : Tmp} {i : Nat} (hr : r i = none) (hf : freeButB l t i = true) : a.tmps.getD t undef = a0.tmps.getD t undef := by
  have := h.rest t fun j o hj ho => by
    have hj' : l[j]? = some o := by simpa using hj
    have hlt := (List.getElem?_eq_some_iff.1 hj').1
    have := List.all_eq_true.1 hf j (List.mem_range.2 hlt)
    rw [hj'] at this
    simp only [ho, Bool.or_eq_true, decide_eq_true_eq, ne_eq, not_true_eq_false, or_false] at this
    rw [this, hr]
  simp [this]
end Go.Kq

namespace Go.Kq
open Go.RowKit

/-- Operation st stores V at ad; ch: which operation comes behind which one. -/
structure HvC (base : World) (ad : Addr) (V : Value) (st : Nat) (ch : List (Nat × Nat)) (r : Nat → Option Value) (w : World) : Prop where
  b0 : r st = none → Kp No base w
  b1 : r st ≠ none → ∃ w0, Kp No base w0 ∧ w = w0.setCell ad V
  bl : ∀ p ∈ ch, r p.1 ≠ none → r p.2 ≠ none
section
variable {base w : World} {ad : Addr} {V : Value} {st : Nat} {ch : List (Nat × Nat)} {r : Nat → Option Value}
theorem HvC.start (base : World) (ad : Addr) (V : Value) (st : Nat) (ch : List (Nat × Nat)) : HvC base ad V st ch (fun _ => none) base.drew := ⟨fun _ => Kp.drew _ _, fun h => absurd rfl h, fun _ _ h => absurd rfl h⟩
theorem HvC.back (h : HvC base ad V st ch r w) {x y : Nat} (hp : (x, y) ∈ ch) (hy : r y = none) : r x = none :=
  Classical.byContradiction fun e => h.bl _ hp e hy
theorem upd_some {r : Nat → Option Value} {i j : Nat} {v : Value} (h : r j ≠ none) : Kq.upd r i v j ≠ none := by
  by_cases e : j = i
  · subst e; rw [upd_same]; exact fun h => by cases h
  · rw [upd_ne _ _ e]; exact h
theorem chain_upd {r : Nat → Option Value} {i : Nat} {v : Value} (hb : ∀ p ∈ ch, r p.1 ≠ none → r p.2 ≠ none) (hc : ∀ p ∈ ch, p.1 = i → r p.2 ≠ none) : ∀ p ∈ ch, Kq.upd r i v p.1 ≠ none → Kq.upd r i v p.2 ≠ none := fun p hp h => by
  by_cases e : p.1 = i
  · exact upd_some (hc p hp e)
  · rw [upd_ne _ _ e] at h
    exact upd_some (hb p hp h)
theorem HvC.updL (h : HvC base ad V st ch r w) (i : Nat) (v : Value) (hi : i ≠ st) (hc : ∀ p ∈ ch, p.1 = i → r p.2 ≠ none) : HvC base ad V st ch (Kq.upd r i v) w := by
  have e1 : Kq.upd r i v st = r st := upd_ne _ _ (fun e => hi e.symm)
  exact ⟨by rw [e1]; exact h.b0, by rw [e1]; exact h.b1, chain_upd h.bl hc⟩
theorem HvC.upd (h : HvC base ad V st ch r w) (i : Nat) (v : Value) (hi : i ≠ st) (hc : ∀ p ∈ ch, p.1 ≠ i) : HvC base ad V st ch (Kq.upd r i v) w :=
  h.updL i v hi fun p hp e => absurd e (hc p hp)
theorem HvC.store (h : HvC base ad V st ch r w) (v : Value) (hr : r st = none) (hc : ∀ p ∈ ch, p.1 = st → r p.2 ≠ none) : HvC base ad V st ch (Kq.upd r st v) (w.setCell ad V) :=
  ⟨fun e => (by rw [upd_same] at e; cases e), fun _ => ⟨w, h.b0 hr, rfl⟩, chain_upd h.bl hc⟩
end
end Go.Kq
