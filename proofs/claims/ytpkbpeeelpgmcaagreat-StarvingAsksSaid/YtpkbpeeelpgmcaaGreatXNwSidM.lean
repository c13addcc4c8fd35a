/- Chapter 14: networks in memory; walks of lay, filled, side. · Chapter 14: the walk of side. -/
import Derived.WalkSpells
import Derived.Test.YtpkbpeeelpgmcaaGreatXNwPsh
namespace Go.Proofs.YtpkbpeeelpgmcaaGreat
open Go.RowKit Go.Kq Go.Flow

def c4 (t : Tk) : List Value := [.int .i64 t.fr, .int .i64 t.to, .int .i64 t.lo, .int .i64 t.hi]
theorem c4_len (t : Tk) : (c4 t).length = 4 := rfl
structure RdNet (w : World) (A B : Option Addr) (N : Net) : Prop where
  tr : Rd c4 4 w A N.tr.length N.tr
  ch : RdI .i64 w B N.ch.length (N.ch.map Int.ofNat)
theorem RdNet.no {w w' : World} {A B : Option Addr} {N : Net} (h : RdNet w A B N) (hk : Kp No w w') : RdNet w' A B N := ⟨h.tr.no hk, h.ch.no hk⟩
theorem RdNet.trunk {w : World} {A B : Option Addr} {N : Net} (h : RdNet w A B N) {k : Nat} {t : Tk} (ht : N.tr[k]? = some t) :
    ∃ b o, A = some ⟨b, o, none⟩ ∧ b < w.heap.size ∧ w.cell? ⟨b, o + k * 4, none⟩ = some (.int .i64 t.fr) ∧ w.cell? ⟨b, o + k * 4 + 1, none⟩ = some (.int .i64 t.to) ∧ w.cell? ⟨b, o + k * 4 + 2, none⟩ = some (.int .i64 t.lo) ∧ w.cell? ⟨b, o + k * 4 + 3, none⟩ = some (.int .i64 t.hi) := by
  obtain ⟨b, o, hA, hb, hc⟩ := h.tr.2 k t ht
  have x0 := hc 0 _ rfl
  rw [Nat.add_zero] at x0
  exact ⟨b, o, hA, hb, x0, hc 1 _ rfl, hc 2 _ rfl, hc 3 _ rfl⟩
theorem RdNet.chest {w : World} {A B : Option Addr} {N : Net} (h : RdNet w A B N) {k c : Nat} (hc : N.ch[k]? = some c) : ∃ b o, B = some ⟨b, o, none⟩ ∧ b < w.heap.size ∧ w.cell? ⟨b, o + k, none⟩ = some (.int .i64 (c : Int)) :=
  h.ch.2 k c (by rw [List.getElem?_map, hc]; rfl)
def netV (N : Net) (A B : Option Addr) (ca cb : Nat) : Value := .agg #[.int .i64 N.n, .slice A N.tr.length ca, .slice B N.ch.length cb]
theorem take_map_snoc {α β : Type} (f : α → β) (l : List α) (k : Nat) (x : α) (h : l[k]? = some x) : (l.take (k + 1)).map f = (l.take k).map f ++ [f x] := by
  rw [List.take_add_one, h]
  simp
theorem below_of {base : Nat} {w w1 w2 : World} (h : Kp No w w1) (k : Kp (fun k => base ≤ k) w1 w2) (hb : w.heap.size ≤ base) : Kp No w w2 := h.trans k fun k hk e => by omega
set_option maxHeartbeats 4000000 in
set_option maxRecDepth 100000 in
theorem lay_any (N : Net) (hN : N.Ok) (A B : Option Addr) (ca cb : Nat) (hi : Bool) (w : World) (hR : RdNet w A B N) :
    Calls Tryz.prog 104 #[netV N A B ca cb, .bool hi] w fun e w' => ∃ b sl, e = .returned (.pointer (some ⟨b, 0, none⟩)) ∧ Web w' w.heap.size b N.n sl (N.tr.map (tp hi)) ∧ Kp No w w' := by
  have hl := hN.t1
  have HN := Lib.hid hN
  clear hN
  unfold netV
  go_enter Tryz.func104, Tryz.ntmps104
  go_wp2_with fail
  go_loopw [16] (fun i wr => ∃ (k : Nat) (sl : Value), k ≤ N.tr.length ∧ i = .int .i64 k ∧ Web wr (w.heap.size + 1) (w.heap.size + 1) N.n sl ((N.tr.take k).map (tp hi)) ∧ Kp No w wr) (fun i _ => N.tr.length - (intOf i).toNat)
  case atStart =>
    refine ⟨0, .slice none 0 0, by omega, rfl, ⟨Nat.le_refl _, ?_, ⟨by simp, .inl ⟨rfl, rfl⟩⟩⟩, (Kp.alloc _ _ _).tr (Kp.alloc _ _ _)⟩
    have := heap_alloc_new (w.alloc (.cells #[.int .i64 N.n, .slice A N.tr.length ca, .slice B N.ch.length cb] 25)) (.cells #[.int .i64 N.n, .slice none 0 0] 96)
    simpa using this
  case round =>
    obtain ⟨k, sl, hk, rfl, hweb, hkp⟩ := hrel
    have HWB := Lib.hid hweb
    clear hweb
    by_cases hlt : k < N.tr.length
    · obtain ⟨t, htk⟩ : ∃ t, N.tr[k]? = some t := ⟨_, List.getElem?_eq_getElem hlt⟩
      obtain ⟨b, o, rfl, hb, x0, x1, x2, x3⟩ := (hR.no hkp).trunk htk
      have HS := Lib.hid (take_map_snoc (tp hi) N.tr k t htk)
      have hlk : ((N.tr.take k).map (tp hi)).length ≤ 100 := by simp; omega
      have hz := HWB.out.lt
      clear htk
      cases hi with
      | true =>
        go_wp2_with fail
        refine (link_any (w.heap.size + 1) (w.heap.size + 1) N.n sl _ t.fr t.to t.hi _ (HWB.out.no (Kp.alloc _ _ _)) hlk (by simp; omega)).mono ?_
        rintro e w2 ⟨⟨v, rfl⟩, sl', hw2, hk2⟩
        have HW2 := Lib.hid hw2
        clear hw2
        go_wp2_with fail
        go_roundw
        case rel => exact ⟨k + 1, sl', by omega, by go_num, by rw [HS.out]; exact HW2.out, below_of (hkp.tr (Kp.alloc _ _ _)) hk2 (by omega)⟩
        case measure => simp [intOf]; omega
      | false =>
        go_wp2_with fail
        refine (link_any (w.heap.size + 1) (w.heap.size + 1) N.n sl _ t.fr t.to t.lo _ (HWB.out.no (Kp.alloc _ _ _)) hlk (by simp; omega)).mono ?_
        rintro e w2 ⟨⟨v, rfl⟩, sl', hw2, hk2⟩
        have HW2 := Lib.hid hw2
        clear hw2
        go_wp2_with fail
        go_roundw
        case rel => exact ⟨k + 1, sl', by omega, by go_num, by rw [HS.out]; exact HW2.out, below_of (hkp.tr (Kp.alloc _ _ _)) hk2 (by omega)⟩
        case measure => simp [intOf]; omega
    · have hfx : (N.tr.take k) = N.tr := List.take_of_length_le (by omega)
      rw [hfx] at HWB
      clear hfx
      go_wp2_with fail
      go_ret
      exact ⟨_, sl, rfl, ⟨by omega, HWB.out.head, own_mono HWB.out.row (by omega)⟩, hkp⟩
theorem neq_nil (a : Option Addr) (n c : Nat) (w : World) : (binOp .neq 33 (.slice a n c) (.slice none 0 0)).run Tryz.prog w = .ok (.bool (!a.isNone)) w := run_neq_slice_nil_any w 33 2 a n c 0 0 Tryz.underlying33
theorem web_mono {w : World} {base base' B V : Nat} {sl : Value} {L : List Pi} (h : Web w base B V sl L) (hb : base' ≤ base) : Web w base' B V sl L := ⟨by have := h.ge; omega, h.head, own_mono h.row hb⟩
theorem zip_snoc {α β : Type} : ∀ (l : List α) (m : List β) (k : Nat) (x : α) (y : β), l[k]? = some x → m[k]? = some y → (l.zip m).take (k + 1) = (l.zip m).take k ++ [(x, y)] := fun l m k x y hx hy => by
  rw [List.take_add_one, (List.getElem?_zip_eq_some (z := (x, y))).2 ⟨hx, hy⟩]
  rfl
theorem lay_good {N : Net} (hN : N.Ok) (hi : Bool) (ds : List Int) (hd : ∀ d ∈ ds, 0 ≤ d ∧ d ≤ 200000000000000) : Good N.n (N.lay hi ds) ∧ Fit (N.lay hi ds) := by
  refine ⟨fun p hp => ?_, fun p hp => ?_⟩
  · rcases List.mem_append.1 hp with hp | hp
    · obtain ⟨t, ht, rfl⟩ := List.mem_map.1 hp
      have h1 := hN.tk t ht
      have h2 := hN.cap ht hi
      exact ⟨by show t.fr ≤ N.n; omega, by show t.to ≤ N.n; omega, h1.2.2.1, by show t.cap hi ≤ _; omega⟩
    · obtain ⟨x, hx, rfl⟩ := List.mem_map.1 hp
      have h1 := hN.ck x.1 (mem_zip_fst hx)
      have h2 := hd x.2 (List.of_mem_zip hx).2
      exact ⟨by show x.1 ≤ N.n; omega, Nat.le_refl _, by show x.1 ≠ N.n; omega, h2.2⟩
  · rcases List.mem_append.1 hp with hp | hp
    · obtain ⟨t, ht, rfl⟩ := List.mem_map.1 hp
      have h2 := hN.cap ht hi
      exact ⟨Int.le_refl _, h2.1⟩
    · obtain ⟨x, hx, rfl⟩ := List.mem_map.1 hp
      have h2 := hd x.2 (List.of_mem_zip hx).2
      exact ⟨Int.le_refl _, h2.1⟩
theorem lay_len {N : Net} (hN : N.Ok) (hi : Bool) (ds : List Int) : (N.lay hi ds).length ≤ 76 := by
  have h1 := hN.t1
  have h2 := hN.c1
  simp [Net.lay]
  omega
/-- What 'filled' leaves. -/
def Filled (w w' : World) (N : Net) (hi : Bool) (ds : List Int) (e : Ending) : Prop := ∃ b sl L d, e = .returned (.tuple #[.pointer (some ⟨b, 0, none⟩), .int .i64 d]) ∧ Web w' w.heap.size b N.n sl L ∧ Pushed (N.lay hi ds) L 0 N.n d ∧ 0 ≤ d ∧ d ≤ 120000000000000 ∧
  (d = 120000000000000 ∨ ∃ b m, Lab L 0 b m ∧ Clo (Rs 0 b) L ∧ Rs 0 b N.n = false) ∧ Kp No w w'
set_option maxHeartbeats 4000000 in
set_option maxRecDepth 100000 in
theorem filled_any (N : Net) (hN : N.Ok) (A B D : Option Addr) (ca cb dn dc : Nat) (hi : Bool) (ds : List Int) (w : World) (hR : RdNet w A B N) (hdl : ds.length = N.ch.length) (hd : ∀ d ∈ ds, 0 ≤ d ∧ d ≤ 200000000000000)
    (hD : (D = none ∧ dn = 0 ∧ dc = 0 ∧ ∀ d ∈ ds, d = 120000000000000) ∨ (D.isSome = true ∧ RdI .i64 w D dn ds)) :
    Calls Tryz.prog 72 #[netV N A B ca cb, .bool hi, .slice D dn dc] w fun e w' => Filled w w' N hi ds e := by
  have hl := hN.t1
  have hcl := hN.c1
  have hn1 := hN.n1
  have hn2 := hN.n2
  obtain ⟨hgood, hfit⟩ := lay_good hN hi ds hd
  have HGD := Lib.hid hgood
  have HFT := Lib.hid hfit
  have HLL := Lib.hid (lay_len hN hi ds)
  have HN := Lib.hid hN
  have HD := Lib.hid hD
  have HDL := Lib.hid hdl
  have hne := neq_nil D dn dc
  clear hN hD hgood hfit
  unfold netV
  go_enter Tryz.func72, Tryz.ntmps72
  go_wp2_with fail
  refine (lay_any N HN.out A B ca cb hi _ (hR.no (Kp.alloc _ _ _))).mono ?_
  rintro e w1 ⟨b, sl, rfl, hw1, hk1⟩
  have hkw := (Kp.alloc No w (.cells #[.int .i64 N.n, .slice A N.tr.length ca, .slice B N.ch.length cb] 25)).tr hk1
  have hbx := hk1.heap (heap_alloc_new w (.cells #[.int .i64 N.n, .slice A N.tr.length ca, .slice B N.ch.length cb] 25)) (fun h => h)
  have c2 : w1.cell? ⟨w.heap.size, 2, none⟩ = some (.slice B N.ch.length cb) := by rw [cell_of_row w1 _ 2 _ _ _ hbx]; rfl
  have HW1 := Lib.hid hw1
  have HBX := Lib.hid hbx
  clear hw1 hk1 hbx
  go_wp2_with fail
  go_loopw [18] (fun i wr => ∃ (k : Nat) (sl : Value), k ≤ N.ch.length ∧ i = .int .i64 k ∧ Web wr (w.heap.size + 1) b N.n sl (N.tr.map (tp hi) ++ ((N.ch.zip ds).take k).map (cp N.n)) ∧ Kp No w wr) (fun i _ => N.ch.length - (intOf i).toNat)
  case atStart =>
    have h1 := HW1.out
    simp at h1
    exact ⟨0, sl, by omega, rfl, by simpa using h1, hkw⟩
  case round =>
    obtain ⟨k, sl, hk, rfl, hweb, hkp⟩ := hrel
    have HWB := Lib.hid hweb
    clear hweb
    by_cases hlt : k < N.ch.length
    · obtain ⟨c, hck⟩ : ∃ c, N.ch[k]? = some c := ⟨_, List.getElem?_eq_getElem hlt⟩
      obtain ⟨d, hdk⟩ : ∃ d, ds[k]? = some d := ⟨_, List.getElem?_eq_getElem (by have := HDL.out; omega)⟩
      obtain ⟨bb, o, rfl, hb, x0⟩ := (hR.no hkp).chest hck
      have HS := Lib.hid (zip_snoc N.ch ds k c d hck hdk)
      have hlk : (N.tr.map (tp hi) ++ ((N.ch.zip ds).take k).map (cp N.n)).length ≤ 100 := by simp; omega
      have hz := HWB.out.lt
      have hge := HWB.out.ge
      have HDK := Lib.hid hdk
      clear hck hdk
      rcases HD.out with ⟨rfl, rfl, rfl, hdd⟩ | ⟨hsome, hrd⟩
      · have hde := hdd d (List.mem_of_getElem? HDK.out)
        subst hde
        clear hdd
        go_wp2_with fail
        refine (drain_any (w.heap.size + 1) b N.n sl _ wr HWB.out).mono ?_
        rintro e w2 ⟨rfl, rfl⟩
        go_wp2_with fail
        refine (link_any (w.heap.size + 1) b N.n sl _ c N.n 120000000000000 wr HWB.out hlk (by omega)).mono ?_
        rintro e w2 ⟨⟨v, rfl⟩, sl', hw2, hk2⟩
        have HW2 := Lib.hid hw2
        clear hw2
        go_wp2_with fail
        go_roundw
        case rel => exact ⟨k + 1, sl', by omega, by go_num, by rw [HS.out, List.map_append, ← List.append_assoc]; exact HW2.out, below_of hkp hk2 (by omega)⟩
        case measure => simp [intOf]; omega
      · obtain ⟨bd, od, rfl, hbd, y0⟩ := (hrd.no hkp).2 k d HDK.out
        have HRD := Lib.hid hrd
        have hdn : k < dn := by have h1 := hrd.1; have := HDL.out; omega
        clear hsome hrd
        go_wp2_with fail
        refine (drain_any (w.heap.size + 1) b N.n sl _ wr HWB.out).mono ?_
        rintro e w2 ⟨rfl, rfl⟩
        go_wp2_with fail
        refine (link_any (w.heap.size + 1) b N.n sl _ c N.n d wr HWB.out hlk (by omega)).mono ?_
        rintro e w2 ⟨⟨v, rfl⟩, sl', hw2, hk2⟩
        have HW2 := Lib.hid hw2
        clear hw2
        go_wp2_with fail
        go_roundw
        case rel => exact ⟨k + 1, sl', by omega, by go_num, by rw [HS.out, List.map_append, ← List.append_assoc]; exact HW2.out, below_of hkp hk2 (by omega)⟩
        case measure => simp [intOf]; omega
    · have hfx : (N.ch.zip ds).take k = N.ch.zip ds := List.take_of_length_le (by have := HDL.out; simp; omega)
      rw [hfx] at HWB
      clear hfx
      have HWB2 : Hid (Web wr (w.heap.size + 1) b N.n sl (N.lay hi ds)) := Lib.hid HWB.out
      go_wp2_with fail
      refine (drain_any (w.heap.size + 1) b N.n sl _ wr HWB2.out).mono ?_
      rintro e w2 ⟨rfl, rfl⟩
      go_wp2_with fail
      refine (push_any (w.heap.size + 1) b N.n sl (N.lay hi ds) 0 N.n 120000000000000 wr HWB2.out HGD.out HFT.out (by omega) (by omega) (by omega) (by omega) (by have := HLL.out; omega) (by omega)).mono ?_
      rintro e w3 ⟨L', d, rfl, hw3, hp3, hd0, hd1, hend, hk3⟩
      have HW3 := Lib.hid hw3
      have HP3 := Lib.hid hp3
      have HE3 := Lib.hid hend
      have HK3 := Lib.hid hk3
      clear hw3 hp3 hend hk3
      go_wp2_with fail
      refine bodyPost_ret (v := .tuple #[.pointer (some ⟨b, 0, none⟩), .int .i64 d]) (by simp [results, Tryz.results72, go_sem]) rfl ⟨b, sl, L', d, rfl, web_mono HW3.out (by omega), HP3.out, hd0, hd1, HE3.out, hkp.trans HK3.out fun k hk h => ?_⟩
      have := (own_ge HWB2.out.row h).1
      omega
end Go.Proofs.YtpkbpeeelpgmcaaGreat

namespace Go.Proofs.YtpkbpeeelpgmcaaGreat
open Go.RowKit Go.Kq Go.Flow

theorem own_one {w : World} {base : Nat} {e : TypeId} {v : Value} (hb : base ≤ w.heap.size) : (w.alloc (.cells #[v] e)).ownsRow base e 1 (.slice (some ⟨w.heap.size, 0, none⟩) 1 1) 1 [v] :=
  ⟨rfl, .inr ⟨_, 1, #[v], rfl, hb, heap_alloc_new w _, by omega, by unfold maxLen; omega, rfl, rfl⟩⟩
def mem (R : Nat → Bool) (n : Nat) : List Nat := (List.range n).filter R
theorem mem_succ (R : Nat → Bool) (n : Nat) : mem R (n + 1) = if R n = true then mem R n ++ [n] else mem R n := by
  unfold mem
  rw [List.range_succ, List.filter_append]
  cases h : R n <;> simp [h]
theorem mem_le (R : Nat → Bool) (n : Nat) : (mem R n).length ≤ n := by
  have := List.length_filter_le R (List.range n)
  rw [List.length_range] at this
  exact this
set_option maxHeartbeats 4000000 in
set_option maxRecDepth 100000 in
theorem side_any (base B V : Nat) (sl : Value) (L : List Pi) (w : World) (hW : Web w base B V sl L) (hG : Good V L) (hL : L.length ≤ 100) (hV : 1 ≤ V ∧ V ≤ 30) :
    Calls Tryz.prog 51 #[.pointer (some ⟨B, 0, none⟩)] w fun e w' => ∃ v b m, e = .returned v ∧ w'.ownsRow w.heap.size 3 1 v (mem (Rs 0 b) V).length ((mem (Rs 0 b) V).map natV) ∧ Lab L 0 b m ∧ Clo (Rs 0 b) L ∧ Kp No w w' := by
  obtain ⟨i0, hi0, hz0, hz1, hz2⟩ := info_parts infoI
  obtain ⟨h0, h1, _, _⟩ := cell_head hW.head
  go_enter Tryz.func51, Tryz.ntmps51
  go_wp2_with fail
  refine (reach_any base B V sl L 0 (-1) w hW (fun p hp => by have := hG p hp; exact ⟨this.1, this.2.1, this.2.2.1⟩) (by omega) (by omega) hL).mono ?_
  rintro e w1 ⟨b, g, rfl, hlb, hlab, hbv, hend, hk1⟩
  obtain ⟨m, hlab⟩ := hlab
  have hclo : Clo (Rs 0 b) L := by
    rcases hend with ⟨v, _, hv⟩ | h
    · omega
    · exact h.1
  have h0' := hk1.cell h0 (fun h => h)
  have HLB := Lib.hid hlb
  have HLAB := Lib.hid hlab
  have HCL := Lib.hid hclo
  have HK1 := Lib.hid hk1
  clear hlb hlab hclo hk1 hbv hend
  go_wp2_with fail
  go_loopw [4, 5] (fun q i wr => ∃ k : Nat, 1 ≤ k ∧ k ≤ V ∧ i = .int .i64 k ∧ wr.ownsRow w1.heap.size 3 1 q (mem (Rs 0 b) k).length ((mem (Rs 0 b) k).map natV) ∧ Kp No w1 wr) (fun _ i _ => V - (intOf i).toNat)
  case atStart =>
    have h1 : mem (Rs 0 b) 1 = [0] := by simp [mem, Rs]
    refine ⟨1, by omega, by omega, rfl, ?_, Kp.alloc _ _ _⟩
    rw [h1]
    exact own_one (Nat.le_refl _)
  case round =>
    obtain ⟨k, hk1, hk2, rfl, hown, hkp⟩ := hrel
    have h0r := hkp.cell h0' (fun h => h)
    obtain ⟨a, cap, rfl, _, _, _⟩ := own_form hown
    have HO := Lib.hid hown
    clear hown
    by_cases hlt : k < V
    · have hcl := lbl_cell (hkp.heap HLB.out (fun h => h)) (v := k) (by omega)
      have hml := mem_le (Rs 0 b) k
      cases hbk : b k with
      | none =>
        rw [hbk] at hcl
        replace hcl : wr.cell? ⟨g, k, none⟩ = some (.int .i64 0) := hcl
        have HS := Lib.hid (show mem (Rs 0 b) (k + 1) = mem (Rs 0 b) k by rw [mem_succ, if_neg]; rw [rs_iff, hbk]; simp; omega)
        clear hbk
        go_wp2_with fail
        go_roundw
        case rel => exact ⟨k + 1, by omega, by omega, by go_num, by rw [HS.out]; exact HO.out, hkp⟩
        case measure => simp [intOf]; omega
      | some s0 =>
        rw [hbk] at hcl
        have hc0 := code_ne s0
        have HS := Lib.hid (show mem (Rs 0 b) (k + 1) = mem (Rs 0 b) k ++ [k] by rw [mem_succ, if_pos]; rw [rs_iff, hbk]; simp)
        generalize hcc : code (some s0) = c0 at hcl hc0
        have hc1 : (c0 == 0) = false := by rw [beq_eq_false_iff_ne]; exact hc0
        have hc2 : (c0 != 0) = true := by rw [bne_iff_ne]; exact hc0
        clear hbk hcc hc0
        generalize mem (Rs 0 b) k = M at *
        go_wp2_with (at_builtin; refine stop_in ?_)
        refine stop_out ?_
        refine wpList_append_own_at _ rfl _ _ 23 rfl w1.heap.size 3 i0 (.int .i64 0) 1 8 Tryz.underlying23 hi0 hz0 hz1 hz2 rfl (by decide) (.slice a M.length cap) M.length (M.map natV) rfl (HO.out.alloc (.cells #[.int .i64 k] 3)) ⟨wr.heap.size, 0, none⟩ 1 1 [.int .i64 k] rfl rfl (cell_one_new wr _ _) (ints_oneCell .i64 [(k : Int)]) (by unfold maxLen; omega) (by omega) (by have := hkp.size; simp; omega) ?_
        intro v' w5 hown' hgrow hnil hat
        have hk5 : Kp No w1 w5 := hkp.trans ((Kp.alloc (fun g => w1.heap.size ≤ g) _ _).tr (Kp.grown hgrow fun g hg _ => (own_ge HO.out hg).1)) (fun g hg h => absurd h (Nat.not_le.2 hg))
        have HO5 := Lib.hid hown'
        have HK5 := Lib.hid hk5
        clear hown' hgrow hnil hat hk5
        go_wp2_with fail
        go_roundw
        case rel => exact ⟨k + 1, by omega, by omega, by go_num, by rw [HS.out, List.length_append, List.map_append]; exact HO5.out, HK5.out⟩
        case measure => simp [intOf]; omega
    · obtain rfl : k = V := by omega
      go_wp2_with fail
      go_ret
      exact ⟨_, b, m, rfl, own_mono HO.out HK1.out.size, HLAB.out, HCL.out, HK1.out.tr hkp⟩
end Go.Proofs.YtpkbpeeelpgmcaaGreat
