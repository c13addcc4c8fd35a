/- Chapter 15: whether demands starve a system: the method starves, over the map of capacities. · Chapter 15: how wind systems and combinations that came in are read. · Chapter 15: how a uint8 that came in is read. -/
import Derived.ProofKit
import Derived.OpenShut
import Derived.Deep.Slices
import Derived.Deep.Fields
import Derived.ChangeSame
import Derived.Test.YtpkbpeeelpgmcaaGreatXWdFM
import Derived.Test.YtpkbpeeelpgmcaaGreatXLibArrKeyM
import Derived.Test.YtpkbpeeelpgmcaaGreatXLibMakeM
namespace Go.Proofs.YtpkbpeeelpgmcaaGreat
open Go.RowKit Go.Kq Go.Flow

theorem keyB : KeyOk Tryz.prog 87 (ekB (n := 16)) := arrKey_ok Tryz.underlying87 Tryz.underlying4 Tryz.sizeOf4 Tryz.isAgg4
theorem len16 {l : List Bool} (h : l.length = 16) : ∃ b0 b1 b2 b3 b4 b5 b6 b7 b8 b9 b10 b11 b12 b13 b14 b15, l = [b0, b1, b2, b3, b4, b5, b6, b7, b8, b9, b10, b11, b12, b13, b14, b15] := by
  match l, h with
  | [b0, b1, b2, b3, b4, b5, b6, b7, b8, b9, b10, b11, b12, b13, b14, b15], _ => exact ⟨b0, b1, b2, b3, b4, b5, b6, b7, b8, b9, b10, b11, b12, b13, b14, b15, rfl⟩
theorem nodup_len {α : Type} [DecidableEq α] : ∀ {a b : List α}, a.Nodup → (∀ x ∈ a, x ∈ b) → a.length ≤ b.length
  | [], _, _, _ => Nat.zero_le _
  | x :: a, b, hn, hs => by
    have hx : x ∈ b := hs x (by simp)
    have hn2 := List.nodup_cons.1 hn
    have h1 := nodup_len (a := a) (b := b.erase x) hn2.2 fun y hy => (List.mem_erase_of_ne (fun e => hn2.1 (by rw [← e]; exact hy))).2 (hs y (by simp [hy]))
    rw [List.length_erase_of_mem hx] at h1
    have := List.length_pos_of_mem hx
    simp only [List.length_cons]
    omega
def atB (l : List Bool) (i : Nat) : Bool := l.getD i false
/-- Are the demands of some set of chests more than its capacity? -/
def mapStv (E : List (Bls 16 × Int)) (ds : List Int) : Bool := E.any fun p => decide (p.2 < sumM (atB p.1.1) ds)
theorem sumM_take : ∀ (c : Nat → Bool) (ds : List Int) (k : Nat) (d : Int), ds[k]? = some d → sumM c (ds.take (k + 1)) = sumM c (ds.take k) + if c k then d else 0
  | _, [], _, _, h => by simp at h
  | c, x :: ds, 0, d, h => by
    simp at h
    subst h
    simp [sumM]
  | c, x :: ds, k + 1, d, h => by
    have ih := sumM_take (fun i => c (i + 1)) ds k d (by simpa using h)
    simp only [List.take_succ_cons, sumM, ih]
    omega
theorem sumM_bd : ∀ (c : Nat → Bool) (ds : List Int), (∀ d ∈ ds, 0 ≤ d ∧ d ≤ 1000000000000) → 0 ≤ sumM c ds ∧ sumM c ds ≤ 1000000000000 * ds.length
  | _, [], _ => by simp [sumM]
  | c, x :: ds, h => by
    have ih := sumM_bd (fun i => c (i + 1)) ds fun d hd => h d (by simp [hd])
    have hx := h x (by simp)
    simp only [sumM, List.length_cons]
    have : (1000000000000 : Int) * ((ds.length + 1 : Nat) : Int) = 1000000000000 * ds.length + 1000000000000 := by omega
    split <;> omega
set_option maxHeartbeats 4000000 in
set_option maxRecDepth 100000 in
theorem sstarves_any (B m : Nat) (E : List (Bls 16 × Int)) (A : Option Addr) (n dc : Nat) (ds : List Int) (w : World) (hB : w.cell? ⟨B, 4, none⟩ = some (.map (some m))) (hm : MapAt w m ekB (Value.int .i64) E) (hD : RdI .i64 w A n ds) (hn : n ≤ 16) (hd : ∀ d ∈ ds, 0 ≤ d ∧ d ≤ 1000000000000) :
    Calls Tryz.prog 25 #[.pointer (some ⟨B, 0, none⟩), .slice A n dc] w fun e w' => e = .returned (.bool (mapStv E ds)) ∧ Kp No w w' := by
  have hmb := hm.lt
  have hnd := hm.nodup
  have HD := Lib.hid hD
  have HL := Lib.hid hD.1
  have HBD := Lib.hid (fun (c : Nat → Bool) (k : Nat) => sumM_bd c (ds.take k) fun d h => hd d (List.mem_of_mem_take h))
  clear hD hd
  go_enter Tryz.func25, Tryz.ntmps25
  go_wp2_with (at_range; refine wpL_range _ rfl _ _ rfl Tryz.underlying82 hm rfl ?_; intro w1 hr1 hg1 hs1)
  go_frame
  have hk1 : Kp No w w1 := Kp.grown_none hg1
  obtain ⟨r, hr⟩ : ∃ r, r = w.heap.size := ⟨_, rfl⟩
  rw [← hr] at hr1 ⊢
  have HR := Lib.hid hr
  have HS1 := Lib.hid hs1
  clear hm hg1 hr hs1
  go_loopg [4] E.length (fun g s wr => ∃ S : List (Bls 16), S.length + g = E.length ∧ s = .bool false ∧ RangeAt wr m r ekB (Value.int .i64) E S ∧ (∀ k ∈ S, ∀ v, (k, v) ∈ E → ¬ v < sumM (atB k.1) ds) ∧ Kp No w wr)
  case atStart => exact ⟨[], by simp, rfl, hr1, fun k hk => (by cases hk), hk1⟩
  case round =>
    obtain ⟨S, hSg, rfl, hrg, hno, hkp⟩ := hrel
    have HN := Lib.hid hno
    have HKP := Lib.hid hkp
    have HRG := Lib.hid hrg
    clear hr1 hk1 hno
    go_wp2_with (at_next; refine stop_in ?_)
    refine stop_out ?_
    refine wpL_next _ rfl _ rfl keyB hrg rfl (fun hall => ?_) (fun k v w2 hmem hnS hrng hgr hsz hen => ?_)
    · have HA := Lib.hid hall
      clear hall hrg hkp
      go_wp2_with fail
      go_ret
      refine ⟨ret_bool ?_, HKP.out⟩
      symm
      unfold mapStv
      rw [List.any_eq_false]
      intro p hp
      simp only [decide_eq_true_eq]
      have := HN.out p.1 (HA.out p.1 (List.mem_map.2 ⟨p, hp, rfl⟩)) p.2 hp
      omega
    · obtain ⟨l, hl⟩ := k
      have HM := Lib.hid hmem
      have HNS := Lib.hid hnS
      have HNG := Lib.hid hrng
      have hk2 : Kp No w w2 := hkp.trans (Kp.grown (S := Kq.One r) hgr fun k hk _ => by cases hk; rfl) fun k hk h => by
        have h : k = r := h
        have := HR.out
        omega
      have HK2 := Lib.hid hk2
      have HLT := Lib.hid (show S.length < E.length by
        have h1 : ((⟨l, hl⟩ : Bls 16) :: S).length ≤ (keys E).length := by
          obtain ⟨_, _, _, _, _, _, _, _, _, _, _, h7, h8⟩ := hrng
          exact nodup_len h7 h8
        simp only [List.length_cons, keys, List.length_map] at h1
        omega)
      clear hmem hnS hrng hgr hrg hkp
      obtain ⟨b0, b1, b2, b3, b4, b5, b6, b7, b8, b9, b10, b11, b12, b13, b14, b15, rfl⟩ := len16 hl
      simp only [ekB, boolsV, List.map_cons, List.map_nil] at hen ⊢
      have hrz : r < w2.heap.size := HNG.out.lt
      go_wp2_with fail
      obtain ⟨L, hL⟩ : ∃ L, L = [b0, b1, b2, b3, b4, b5, b6, b7, b8, b9, b10, b11, b12, b13, b14, b15] := ⟨_, rfl⟩
      obtain ⟨w3, hw3⟩ : ∃ w3, w3 = w2.alloc (.cells #[.bool b0, .bool b1, .bool b2, .bool b3, .bool b4, .bool b5, .bool b6, .bool b7, .bool b8, .bool b9, .bool b10, .bool b11, .bool b12, .bool b13, .bool b14, .bool b15] 87) := ⟨_, rfl⟩
      obtain ⟨gb, hgb⟩ : ∃ gb, gb = wr.heap.size := ⟨_, rfl⟩
      have HB3 := Lib.hid (show ∀ i, i < 16 → w3.cell? ⟨gb, i, none⟩ = some (.bool (atB L i)) from fun i hi => by
        have h1 : w3.heap[gb]? = some (.cells #[.bool b0, .bool b1, .bool b2, .bool b3, .bool b4, .bool b5, .bool b6, .bool b7, .bool b8, .bool b9, .bool b10, .bool b11, .bool b12, .bool b13, .bool b14, .bool b15] 87 (0, 0)) := by
          rw [hw3, hgb, ← hsz]
          exact heap_alloc_new w2 _
        rw [cell_of_row _ _ _ _ _ _ h1]
        have h2 : #[Value.bool b0, .bool b1, .bool b2, .bool b3, .bool b4, .bool b5, .bool b6, .bool b7, .bool b8, .bool b9, .bool b10, .bool b11, .bool b12, .bool b13, .bool b14, .bool b15] = (L.map Value.bool).toArray := by rw [hL]; rfl
        rw [h2]
        have h3 : i < L.length := by rw [hL]; exact hi
        simp only [List.getElem?_toArray, List.getElem?_map, atB, List.getD_eq_getElem?_getD, List.getElem?_eq_getElem h3, Option.map_some, Option.getD_some])
      have HNG3 := Lib.hid (show RangeAt w3 m r ekB (Value.int .i64) E (⟨_, hl⟩ :: S) by rw [hw3]; exact HNG.out.alloc _)
      have HK3 := Lib.hid (show Kp No w w3 by rw [hw3]; exact HK2.out.tr (Kp.alloc _ _ _))
      rw [← hw3, ← hgb]
      clear hw3 hgb hsz hen hk2 hrz HRG HNG
      go_loop [7, 22] (fun s i => ∃ j : Nat, j ≤ n ∧ i = .int .i64 (j : Nat) ∧ s = .int .i64 (sumM (atB L) (ds.take j))) (fun _ i => n - (intOf i).toNat)
      case atStart => exact ⟨0, by omega, rfl, by simp [sumM]⟩
      case round =>
        obtain ⟨j, hj, rfl, rfl⟩ := hrel
        by_cases hlt : j < n
        · obtain ⟨d, hd⟩ : ∃ d, ds[j]? = some d := ⟨_, List.getElem?_eq_getElem (by rw [HL.out]; exact hlt)⟩
          obtain ⟨b, o, rfl, hb, hc⟩ := (HD.out.no HK3.out).2 j d hd
          have hbd := HBD.out (atB L) j
          have hbd2 := HBD.out (atB L) (j + 1)
          rw [sumM_take _ _ _ _ hd] at hbd2
          have HT := Lib.hid (sumM_take (atB L) ds j d hd)
          have hl1 : ((ds.take j).length : Int) ≤ 16 := by rw [List.length_take]; omega
          have hl2 : ((ds.take (j + 1)).length : Int) ≤ 16 := by rw [List.length_take]; omega
          have ha := HB3.out j (by omega)
          have hj16 : (j : Int) < 16 := by omega
          clear hd
          generalize sumM (atB L) (ds.take j) = T at *
          cases hbb : atB L j
          · rw [hbb] at ha hbd2
            have HB := Lib.hid hbb
            clear hbb
            go_wp2_with fail
            go_round
            case rel => exact ⟨j + 1, by omega, by go_num, by rw [HT.out, HB.out]; simp⟩
            case measure => simp [intOf]; omega
          · rw [hbb] at ha hbd2
            rw [if_pos rfl] at hbd2
            have HB := Lib.hid hbb
            clear hbb
            go_wp2_with fail
            go_round
            case rel => exact ⟨j + 1, by omega, by go_num, by rw [HT.out, HB.out]; simp⟩
            case measure => simp [intOf]; omega
        · obtain rfl : j = n := by omega
          have hte : ds.take j = ds := List.take_of_length_le (by rw [HL.out]; exact Nat.le_refl _)
          rw [hte]
          have HLL := Lib.hid hL
          clear hte
          by_cases hlt2 : v < sumM (atB L) ds
          · have HY := Lib.hid (show mapStv E ds = true from List.any_eq_true.2 ⟨_, HM.out, by show decide (v < sumM (atB [b0, b1, b2, b3, b4, b5, b6, b7, b8, b9, b10, b11, b12, b13, b14, b15]) ds) = true; rw [← hL]; simpa using hlt2⟩)
            clear hL
            generalize sumM (atB L) ds = T at *
            go_wp2_with fail
            go_ret
            exact ⟨ret_bool HY.out.symm, HK3.out⟩
          · have HN2 := Lib.hid hlt2
            clear hL
            generalize hT : sumM (atB L) ds = T at *
            have HTT := Lib.hid hT
            clear hT
            have hlt3 := HLT.out
            go_wp2_with fail
            go_roundg (gk - 1)
            case measure => omega
            case rel =>
              refine ⟨_ :: S, by simp only [List.length_cons]; omega, rfl, HNG3.out, fun k hk u hu => ?_, HK3.out⟩
              rcases List.mem_cons.1 hk with rfl | hk
              · have h1 := get1_mem hnd HM.out
                have h2 := get1_mem hnd hu
                rw [h1] at h2
                injection h2 with h2
                rw [← h2]
                show sumM (atB [b0, b1, b2, b3, b4, b5, b6, b7, b8, b9, b10, b11, b12, b13, b14, b15]) ds ≤ v
                have h3 := HN2.out
                rw [← HLL.out, HTT.out]
                omega
              · have := HN.out k hk u hu
                omega
end Go.Proofs.YtpkbpeeelpgmcaaGreat

namespace Go.Proofs.YtpkbpeeelpgmcaaGreat
open Go.ChangeShapes Go.WideShapes Go.RowKit Go.Deep Go.Kq

theorem choose_list {α : Type} {P : Nat → α → Prop} : ∀ n : Nat, (∀ i, i < n → ∃ a, P i a) → ∃ l : List α, l.length = n ∧ ∀ i a, l[i]? = some a → P i a
  | 0, _ => ⟨[], rfl, fun i a h => by simp at h⟩
  | n + 1, h => by
    obtain ⟨l, hl, hp⟩ := choose_list n fun i hi => h i (by omega)
    obtain ⟨a, ha⟩ := h n (by omega)
    refine ⟨l ++ [a], by simp [hl], fun i b hb => ?_⟩
    rcases Nat.lt_trichotomy i n with h1 | h1 | h1
    · rw [List.getElem?_append_left (by omega)] at hb
      exact hp i b hb
    · subst h1
      rw [List.getElem?_append_right (by omega), hl] at hb
      simp at hb
      exact hb ▸ ha
    · rw [List.getElem?_eq_none (by simp; omega)] at hb
      cases hb
section
variable {H : Type} {enc : TypeId × Value → H} {W : World} {base : Nat} {spare : Nat → Bool} {held : Bool}
theorem one_int3 {fuel : Nat} {v : Value} {y : DataW H × List MemPlace} (h : DataW.trod enc Tryz.prog W base spare held fuel 3 [v] = some y) : ∃ x : Int, v = .int .i64 x := by
  obtain ⟨x, h1, _⟩ := DataW.trod_int Tryz.underlying3 h
  simp at h1
  exact ⟨x, h1⟩
theorem one_int2 {fuel : Nat} {v : Value} {y : DataW H × List MemPlace} (h : DataW.trod enc Tryz.prog W base spare held fuel 2 [v] = some y) : ∃ x : Int, v = .int .i64 x := by
  obtain ⟨x, h1, _⟩ := DataW.trod_int Tryz.underlying2 h
  simp at h1
  exact ⟨x, h1⟩
theorem one_bool {fuel : Nat} {v : Value} {y : DataW H × List MemPlace} (h : DataW.trod enc Tryz.prog W base spare held fuel 4 [v] = some y) : ∃ x : Bool, v = .bool x := by
  obtain ⟨x, h1, _⟩ := DataW.trod_bool Tryz.underlying4 h
  simp at h1
  exact ⟨x, h1⟩
theorem c29 : Tryz.prog.cellsOf 78 = 2 := by kernel_rfl
theorem c66 : Tryz.prog.cellsOf 80 = 4 := by kernel_rfl
theorem c3 : Tryz.prog.cellsOf 3 = 1 := by kernel_rfl
theorem c2 : Tryz.prog.cellsOf 2 = 1 := by kernel_rfl
theorem c25 : Tryz.prog.cellsOf 25 = 3 := by kernel_rfl
theorem c22 : Tryz.prog.cellsOf 22 = 1 := by kernel_rfl
theorem c23 : Tryz.prog.cellsOf 23 = 1 := by kernel_rfl
theorem c38 : Tryz.prog.cellsOf 33 = 1 := by kernel_rfl
theorem c4b : Tryz.prog.cellsOf 4 = 1 := by kernel_rfl
theorem fld {t : TypeId} {fs : Array Field} {fuel : Nat} {cs : List Value} {y : DataW H × List MemPlace} (ht : Tryz.prog.underlying t = some (.struct fs)) (h : DataW.trod enc Tryz.prog W base spare held fuel t cs = some y) (i : Nat) (f : Field) (o k : Nat) (e : TypeId) (hf : fs[i]? = some f) (ho : f.offset = o) (he : f.type = e) (hk : Tryz.prog.cellsOf e = k) :
    ∃ n y, DataW.trod enc Tryz.prog W base spare held n e ((cs.drop o).take k) = some y := by
  obtain ⟨xs, n, _, _, _, hl, hx⟩ := DataW.trod_struct ht h
  have g := hx i f hf
  have hi := (Array.getElem?_eq_some_iff.1 hf).1
  rw [ho, he, hk, List.getElem?_eq_getElem (by omega)] at g
  exact ⟨n, _, g⟩
set_option maxRecDepth 100000 in
theorem trunk_cells {cs : List Value} {n : Nat} {y : DataW H × List MemPlace} (h : DataW.trod enc Tryz.prog W base spare held n 80 cs = some y) : ∃ t : Tz, cs = z4 t := by
  obtain ⟨_, _, _, _, hlen, _, _⟩ := DataW.trod_struct Tryz.underlying80 h
  rw [c66] at hlen
  match cs, hlen with
  | [a0, a1, a2, a3], _ =>
    obtain ⟨n0, y0, h0⟩ := fld Tryz.underlying80 h 0 _ 0 1 3 rfl rfl rfl c3
    obtain ⟨n1, y1, h1⟩ := fld Tryz.underlying80 h 1 _ 1 1 3 rfl rfl rfl c3
    obtain ⟨n2, y2, h2⟩ := fld Tryz.underlying80 h 2 _ 2 2 78 rfl rfl rfl c29
    obtain ⟨n3, y3, h3⟩ := fld Tryz.underlying78 h2 0 _ 0 1 2 rfl rfl rfl c2
    obtain ⟨n4, y4, h4⟩ := fld Tryz.underlying78 h2 1 _ 1 1 2 rfl rfl rfl c2
    obtain ⟨f, rfl⟩ := one_int3 (by simpa using h0)
    obtain ⟨t, rfl⟩ := one_int3 (by simpa using h1)
    obtain ⟨l, rfl⟩ := one_int2 (by simpa using h3)
    obtain ⟨u, rfl⟩ := one_int2 (by simpa using h4)
    exact ⟨⟨f, t, l, u⟩, rfl⟩
theorem open_rd {α : Type} (f : α → List Value) (s : Nat) (hs : 0 < s) (_hfl : ∀ x, (f x).length = s) {t e : TypeId} (ht : Tryz.prog.underlying t = some (.slice e)) (ce : Tryz.prog.cellsOf e = s)
    (he : ∀ (fuel : Nat) (cs : List Value) (y : DataW H × List MemPlace), DataW.trod enc Tryz.prog W base (fun _ => true) held fuel e cs = some y → ∃ x, cs = f x)
    {fuel : Nat} {a : Option Addr} {len cap : Nat} {y : DataW H × List MemPlace} (h : DataW.trod enc Tryz.prog W base (fun _ => true) held fuel t [.slice a len cap] = some y) : (∃ xs, Rd f s W a len xs) ∧ (a = none → len = 0 ∧ cap = 0) ∧ len ≤ maxLen := by
  rcases open_slice ht h with ⟨hcs, _⟩ | ⟨x, l, c, m, n, D, Pl, hcs, hb, hl, hm, hmm, _, hi⟩
  · simp at hcs
    obtain ⟨rfl, rfl, rfl⟩ := hcs
    exact ⟨⟨[], rfl, fun i v h => by simp at h⟩, fun _ => ⟨rfl, rfl⟩, by unfold maxLen; omega⟩
  · simp at hcs
    obtain ⟨rfl, rfl, rfl⟩ := hcs
    refine ⟨?_, (fun h => by cases h), by omega⟩
    simp at hmm
    subst hmm
    rw [ce] at hi
    by_cases hz : len = 0
    · subst hz
      exact ⟨[], rfl, fun i v h => by simp at h⟩
    obtain ⟨b0, o0, sp⟩ := x
    have hsp : sp = none := by
      obtain ⟨cs', hc, ht⟩ := hi 0 (by omega)
      obtain ⟨_, hln, hat⟩ := World.cells?_some hc
      have e0 := hat 0 (by omega)
      rw [List.getElem?_eq_getElem (by omega)] at e0
      simpa [Addr.add] using World.cell?_spot e0
    subst hsp
    obtain ⟨vs, hvl, hvs⟩ := choose_list (P := fun i (v : α) => b0 < W.heap.size ∧ ∀ j u, (f v)[j]? = some u → W.cell? ⟨b0, o0 + i * s + j, none⟩ = some u) len (fun i hil => by
      obtain ⟨cs', hc, ht⟩ := hi i (by omega)
      obtain ⟨v, rfl⟩ := he _ _ _ ht
      obtain ⟨_, hln, hat⟩ := World.cells?_some hc
      refine ⟨v, ?_, fun j u hj => ?_⟩
      · have e0 := hat 0 (by omega)
        rw [List.getElem?_eq_getElem (by omega)] at e0
        simp only [Addr.add_lit, Nat.add_zero] at e0
        exact World.block_lt_of_cell? W _ e0
      · have hjl := (List.getElem?_eq_some_iff.1 hj).1
        have e0 := hat j (by omega)
        simp only [Addr.add_lit] at e0
        rw [e0, hj])
    exact ⟨vs, hvl, fun i v hv => ⟨b0, o0, rfl, (hvs i v hv).1, (hvs i v hv).2⟩⟩
theorem one_cell {e : TypeId} (_h1 : Tryz.prog.cellsOf e = 1) {fuel : Nat} {cs : List Value} {y : DataW H × List MemPlace} (k : IntKind) (he : Tryz.prog.underlying e = some (.int k)) (h : DataW.trod enc Tryz.prog W base spare held fuel e cs = some y) : ∃ x : Int, cs = [.int k x] := by
  obtain ⟨x, h1, _⟩ := DataW.trod_int he h
  exact ⟨x, h1⟩
theorem rdI_of {k : IntKind} {a : Option Addr} {n : Nat} {xs : List Int} (h : Rd (fun x : Int => [Value.int k x]) 1 W a n xs) : RdI k W a n xs := by
  refine ⟨h.1, fun i x hx => ?_⟩
  obtain ⟨b, o, hA, hb, hc⟩ := h.2 i x hx
  exact ⟨b, o, hA, hb, by simpa using hc 0 _ rfl⟩
theorem open_ints {t e : TypeId} (k : IntKind) (ht : Tryz.prog.underlying t = some (.slice e)) (he : Tryz.prog.underlying e = some (.int k)) (ce : Tryz.prog.cellsOf e = 1) {fuel : Nat} {a : Option Addr} {len cap : Nat} {y : DataW H × List MemPlace}
    (h : DataW.trod enc Tryz.prog W base (fun _ => true) held fuel t [.slice a len cap] = some y) : (∃ xs, RdI k W a len xs) ∧ (a = none → len = 0 ∧ cap = 0) ∧ len ≤ maxLen := by
  obtain ⟨⟨xs, hx⟩, hn⟩ := open_rd (fun x : Int => [Value.int k x]) 1 (by omega) (fun _ => rfl) ht ce (fun fuel cs y h => one_cell ce k he h) h
  exact ⟨⟨xs, rdI_of hx⟩, hn⟩
theorem one_slice {t e : TypeId} (ht : Tryz.prog.underlying t = some (.slice e)) {fuel : Nat} {v : Value} {y : DataW H × List MemPlace} (h : DataW.trod enc Tryz.prog W base spare held fuel t [v] = some y) : ∃ a n c, v = .slice a n c := by
  rcases open_slice ht h with ⟨hcs, _⟩ | ⟨x, l, c, m, n, D, Pl, hcs, _⟩
  · simp at hcs; exact ⟨_, _, _, hcs⟩
  · simp at hcs; exact ⟨_, _, _, hcs⟩
theorem cWind : Tryz.prog.cellsOf 28 = 4 := by kernel_rfl
theorem cCombo : Tryz.prog.cellsOf 30 = 2 := by kernel_rfl
theorem cStop : Tryz.prog.cellsOf 45 = 2 := by kernel_rfl
theorem cStops : Tryz.prog.cellsOf 26 = 1 := by kernel_rfl
abbrev Sx (W : World) := { x : Sv × Sto // SvIs W x.1 x.2 }
set_option maxRecDepth 100000 in
theorem stop_cells {cs : List Value} {n : Nat} {y : DataW H × List MemPlace} (h : DataW.trod enc Tryz.prog W base (fun _ => true) held n 45 cs = some y) : ∃ x : Sx W, cs = x.1.1.cells := by
  obtain ⟨_, _, _, _, hlen, _, _⟩ := DataW.trod_struct Tryz.underlying45 h
  rw [cStop] at hlen
  match cs, hlen with
  | [a0, a1], _ =>
    obtain ⟨n0, y0, h0⟩ := fld Tryz.underlying45 h 0 _ 0 1 3 rfl rfl rfl c3
    obtain ⟨n1, y1, h1⟩ := fld Tryz.underlying45 h 1 _ 1 1 33 rfl rfl rfl c38
    simp at h0 h1
    obtain ⟨ch, rfl⟩ := one_int3 h0
    obtain ⟨A, la, ca, rfl⟩ := one_slice Tryz.underlying33 h1
    obtain ⟨⟨xs, hxs⟩, _⟩ := open_ints .i64 Tryz.underlying33 Tryz.underlying2 c2 h1
    exact ⟨⟨(⟨ch, A, la, ca⟩, ⟨ch, xs⟩), rfl, hxs.1.symm, hxs⟩, rfl⟩
theorem rdst_of {W : World} {C : Option Addr} {n : Nat} {xs : List (Sx W)} (h : Rd (fun x : Sx W => x.1.1.cells) 2 W C n xs) : RdSt W C n (xs.map fun x => x.1.1) (xs.map fun x => x.1.2) := by
  refine ⟨⟨by rw [List.length_map]; exact h.1, fun i v hv => ?_⟩, by rw [List.length_map]; exact h.1, fun i v s hv hs => ?_⟩
  · rw [List.getElem?_map] at hv
    obtain ⟨x, hx, rfl⟩ := Option.map_eq_some_iff.1 hv
    exact h.2 i x hx
  · rw [List.getElem?_map] at hv hs
    obtain ⟨x, hx, rfl⟩ := Option.map_eq_some_iff.1 hv
    obtain ⟨x', hx', rfl⟩ := Option.map_eq_some_iff.1 hs
    rw [hx] at hx'
    cases hx'
    exact x.2
set_option maxRecDepth 100000 in
/-- A system that came in. -/
theorem open_wind {v : Value} {d : DataW H} {p : List MemPlace} {r : Reach} {b0 : Nat} (hv : Value.okWide Tryz.prog W r b0 28 v) (h : DataW.Trod enc Tryz.prog W base (fun _ => true) held 28 v d p) : ∃ (Z : Nz) (A B C : Option Addr) (ca cb n cc : Nat) (vs : List Sv) (l : List Sto), v = windV Z A B C ca cb n cc ∧ RdNz W A B Z ∧ RdSt W C n vs l := by
  obtain ⟨cs, rfl, hsz⟩ := okWide_struct Tryz.underlying28 hv
  rw [cWind] at hsz
  obtain ⟨fuel, hf⟩ := h
  obtain ⟨l⟩ := cs
  match l, hsz with
  | [a0, a1, a2, a3], _ =>
    obtain ⟨nn, yn, hn⟩ := fld Tryz.underlying28 hf 0 _ 0 3 25 rfl rfl rfl c25
    obtain ⟨ns, ys, hs⟩ := fld Tryz.underlying28 hf 1 _ 3 1 26 rfl rfl rfl cStops
    simp [Value.cells] at hn hs
    obtain ⟨n0, y0, h0⟩ := fld Tryz.underlying25 hn 0 _ 0 1 3 rfl rfl rfl c3
    obtain ⟨n1, y1, h1⟩ := fld Tryz.underlying25 hn 1 _ 1 1 22 rfl rfl rfl c22
    obtain ⟨n2, y2, h2⟩ := fld Tryz.underlying25 hn 2 _ 2 1 23 rfl rfl rfl c23
    simp at h0 h1 h2
    obtain ⟨n, rfl⟩ := one_int3 h0
    obtain ⟨A, la, ca, rfl⟩ := one_slice Tryz.underlying22 h1
    obtain ⟨B, lb, cb, rfl⟩ := one_slice Tryz.underlying23 h2
    obtain ⟨C, lc, cc, rfl⟩ := one_slice Tryz.underlying26 hs
    obtain ⟨⟨ts, hts⟩, _⟩ := open_rd z4 4 (by omega) (fun _ => rfl) Tryz.underlying22 c66 (fun fuel cs y h => trunk_cells h) h1
    obtain ⟨⟨xs, hxs⟩, _⟩ := open_ints .i64 Tryz.underlying23 Tryz.underlying3 c3 h2
    obtain ⟨⟨ss, hss⟩, _⟩ := open_rd (fun x : Sx W => x.1.1.cells) 2 (by omega) (fun _ => rfl) Tryz.underlying26 cStop (fun fuel cs y h => stop_cells h) hs
    obtain ⟨rfl, _⟩ := id hts
    obtain ⟨rfl, _⟩ := id hxs
    exact ⟨⟨n, ts, xs⟩, A, B, C, ca, cb, lc, cc, _, _, rfl, ⟨hts, hxs⟩, rdst_of hss⟩
set_option maxRecDepth 100000 in
/-- A combination that came in. -/
theorem open_combo {v : Value} {d : DataW H} {p : List MemPlace} {r : Reach} {b0 : Nat} (hv : Value.okWide Tryz.prog W r b0 30 v) (h : DataW.Trod enc Tryz.prog W base (fun _ => true) held 30 v d p) : ∃ (P : Option Addr) (m cp : Nat) (Q : Option Addr) (q cq : Nat) (S K : List Int), v = comboV P m cp Q q cq ∧ RdI .i64 W P m S ∧ RdI .i64 W Q q K ∧ m ≤ maxLen ∧ q ≤ maxLen ∧ (P = none → m = 0 ∧ cp = 0) ∧ (Q = none → q = 0 ∧ cq = 0) := by
  obtain ⟨cs, rfl, hsz⟩ := okWide_struct Tryz.underlying30 hv
  rw [cCombo] at hsz
  obtain ⟨fuel, hf⟩ := h
  obtain ⟨l⟩ := cs
  match l, hsz with
  | [a0, a1], _ =>
    obtain ⟨n0, y0, h0⟩ := fld Tryz.underlying30 hf 0 _ 0 1 23 rfl rfl rfl c23
    obtain ⟨n1, y1, h1⟩ := fld Tryz.underlying30 hf 1 _ 1 1 23 rfl rfl rfl c23
    simp [Value.cells] at h0 h1
    obtain ⟨A, la, ca, rfl⟩ := one_slice Tryz.underlying23 h0
    obtain ⟨B, lb, cb, rfl⟩ := one_slice Tryz.underlying23 h1
    obtain ⟨⟨xs, hxs⟩, hx1, hx2⟩ := open_ints .i64 Tryz.underlying23 Tryz.underlying3 c3 h0
    obtain ⟨⟨ks, hks⟩, hk1, hk2⟩ := open_ints .i64 Tryz.underlying23 Tryz.underlying3 c3 h1
    exact ⟨A, la, ca, B, lb, cb, xs, ks, rfl, hxs, hks, hx2, hk2, hx1, hk1⟩
end
end Go.Proofs.YtpkbpeeelpgmcaaGreat

namespace Go.Proofs.YtpkbpeeelpgmcaaGreat
open Go.ChangeShapes Go.WideShapes Go.RowKit Go.Deep Go.Kq

section
variable {H : Type} {enc : TypeId × Value → H} {W : World} {base : Nat} {spare : Nat → Bool} {held : Bool}
theorem open_u8 {n : Int} {d : DataW H} {p : List MemPlace} (h : DataW.Trod enc Tryz.prog W base spare held 5 (.int .u8 n) d p) : 0 ≤ n ∧ n < 256 := by
  obtain ⟨fuel, hf⟩ := h
  obtain ⟨m, hc, _, hw⟩ := DataW.trod_int Tryz.underlying5 hf
  simp [Value.cells] at hc
  subst hc
  have hb := bounds_u8 hw
  omega
end
end Go.Proofs.YtpkbpeeelpgmcaaGreat
