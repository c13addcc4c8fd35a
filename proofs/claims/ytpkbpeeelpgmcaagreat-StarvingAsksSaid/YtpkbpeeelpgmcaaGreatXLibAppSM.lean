/- Chapter 14: walks of Greatest and Cut. · An append onto a row of the call's own, at a step of a region that draws its order. No program in sight. -/
import Derived.Deep.RegionLaw
import Derived.Test.YtpkbpeeelpgmcaaGreatXNwSidM
import Derived.Test.YtpkbpeeelpgmcaaGreatXNwChk2
import Derived.Test.YtpkbpeeelpgmcaaGreatXLibRowM
namespace Go.Proofs.YtpkbpeeelpgmcaaGreat
open Go.RowKit Go.Kq Go.Flow

theorem rdnz_of {w : World} {A B : Option Addr} {N : Net} (h : RdNet w A B N) : RdNz w A B (nz N) := by
  refine ⟨?_, ?_⟩
  · simp only [nz, List.length_map]
    exact (rd_map (φ := tkz) (fun x => rfl)).2 h.tr
  · simp only [nz, List.length_map]
    exact h.ch
theorem check_ok (N : Net) (hN : N.Ok) (A B : Option Addr) (ca cb : Nat) (w : World) (hR : RdNet w A B N) :
    Calls Tryz.prog 31 #[netV N A B ca cb] w fun e w' => e = .returned (.int .i64 0) ∧ Kp No w w' := by
  have h := Check_any (nz N) A B ca cb w (rdnz_of hR)
  rw [netZ_nz] at h
  refine h.mono ?_
  rintro e w' ⟨c, rfl, hc, hk⟩
  rw [hc.uniq (chk_ok hN)]
  exact ⟨rfl, hk⟩
theorem check_bad (Z : Nz) (c : Int) (hc : ChkIs Z c) (A B : Option Addr) (ca cb : Nat) (w : World) (hR : RdNz w A B Z) :
    Calls Tryz.prog 31 #[netZ Z A B ca cb] w fun e w' => e = .returned (.int .i64 c) ∧ Kp No w w' := by
  refine (Check_any Z A B ca cb w hR).mono ?_
  rintro e w' ⟨c', rfl, hc', hk⟩
  rw [hc'.uniq hc]
  exact ⟨rfl, hk⟩
/-- The greatest supply. -/
def Gr (N : Net) (h : Bool) (d : Int) : Prop := ∃ R, Min N.A1 (N.out h) R ∧ N.out h R = d
theorem Gr.uniq {N : Net} {h : Bool} {d d' : Int} (a : Gr N h d) (b : Gr N h d') : d = d' := by
  obtain ⟨R, h1, rfl⟩ := a
  obtain ⟨R', h2, rfl⟩ := b
  exact h1.same h2
def top : Int := 120000000000000
theorem free_end {N : Net} (hN : N.Ok) {h : Bool} {L : List Pi} {d : Int} (hp : Pushed (N.lay h (List.replicate N.ch.length top)) L 0 N.n d) (he : d = 120000000000000 ∨ ∃ b m, Lab L 0 b m ∧ Clo (Rs 0 b) L ∧ Rs 0 b N.n = false) : ∃ b m, Lab L 0 b m ∧ Clo (Rs 0 b) L ∧ Rs 0 b N.n = false := by
  rcases he with he | he
  · exfalso
    have hA : N.A1 fun v => decide (v = 0) := ⟨⟨by simp, by have := hN.n1; simp; omega⟩, fun c hc => by have := hN.ck c hc; simp; omega⟩
    have := push_le hp hA.1
    rw [wt_a1 hA] at this
    have := hN.out_le h (fun v => decide (v = 0))
    omega
  · exact he
theorem free_gr {N : Net} (hN : N.Ok) {h : Bool} {L : List Pi} {d : Int} (hp : Pushed (N.lay h (List.replicate N.ch.length top)) L 0 N.n d) (he : d = 120000000000000 ∨ ∃ b m, Lab L 0 b m ∧ Clo (Rs 0 b) L ∧ Rs 0 b N.n = false) : Gr N h d := by
  obtain ⟨b, m, h1, h2, h3⟩ := free_end hN hp he
  obtain ⟨h4, h5⟩ := push_free hN (M := top) (by unfold top; omega) hp h1 h2 h3
  exact ⟨_, h4, h5⟩
theorem filled_free (N : Net) (hN : N.Ok) (A B : Option Addr) (ca cb : Nat) (hi : Bool) (w : World) (hR : RdNet w A B N) :
    Calls Tryz.prog 72 #[netV N A B ca cb, .bool hi, .slice none 0 0] w fun e w' => Filled w w' N hi (List.replicate N.ch.length top) e :=
  filled_any N hN A B none ca cb 0 0 hi _ w hR (by simp) (fun d hd => by rw [List.eq_of_mem_replicate hd]; unfold top; omega) (.inl ⟨rfl, rfl, rfl, fun d hd => List.eq_of_mem_replicate hd⟩)
theorem lay_len100 {N : Net} (hN : N.Ok) {hi : Bool} {ds : List Int} {L : List Pi} (h : Same (N.lay hi ds) L) : L.length ≤ 100 := by
  have := lay_len hN hi ds
  rw [h.len]
  omega
set_option maxHeartbeats 2000000 in
theorem Greatest_ok (N : Net) (hN : N.Ok) (A B : Option Addr) (ca cb : Nat) (w : World) (hR : RdNet w A B N) :
    Calls Tryz.prog 49 #[netV N A B ca cb] w fun e w' => ∃ lo hi, e = .returned (.tuple #[.agg #[.int .i64 lo, .int .i64 hi], .int .i64 0]) ∧ Gr N false lo ∧ Gr N true hi ∧ Kp No w w' := by
  have h1 := check_ok N hN A B ca cb
  have h2 := filled_free N hN A B ca cb
  have H1 := Lib.hid h1
  have H2 := Lib.hid h2
  have HN := Lib.hid hN
  clear h1 h2 hN
  unfold netV at H1 H2 ⊢
  go_enter Tryz.func49, Tryz.ntmps49
  go_wp2_with fail
  have hk0 : Kp No w _ := (Kp.alloc No w (.cells #[.int .i64 N.n, .slice A N.tr.length ca, .slice B N.ch.length cb] 25)).tr (Kp.alloc No _ (.cells #[.int .i64 0, .int .i64 0] 78))
  have hb0 := (Kp.alloc No _ (.cells #[.int .i64 0, .int .i64 0] 78)).heap (heap_alloc_new w (.cells #[.int .i64 N.n, .slice A N.tr.length ca, .slice B N.ch.length cb] 25)) (fun h => h)
  have hb1 : ((w.alloc (.cells #[.int .i64 N.n, .slice A N.tr.length ca, .slice B N.ch.length cb] 25)).alloc (.cells #[.int .i64 0, .int .i64 0] 78)).heap[w.heap.size + 1]? = some (.cells #[.int .i64 0, .int .i64 0] 78 (0, 0)) := by
    have := heap_alloc_new (w.alloc (.cells #[.int .i64 N.n, .slice A N.tr.length ca, .slice B N.ch.length cb] 25)) (.cells #[.int .i64 0, .int .i64 0] 78)
    simpa using this
  have K0 := Lib.hid hk0
  have B0 := Lib.hid hb0
  have B1 := Lib.hid hb1
  clear hk0 hb0 hb1
  refine (H1.out _ (hR.no K0.out)).mono ?_
  rintro e w1 ⟨rfl, hk1⟩
  have K1 := Lib.hid (K0.out.tr hk1)
  have b10 := hk1.heap B0.out (fun h => h)
  have b11 := hk1.heap B1.out (fun h => h)
  have x0 : w1.cell? ⟨w.heap.size, 0, none⟩ = some (.int .i64 N.n) := by rw [cell_of_row w1 _ 0 _ _ _ b10]; rfl
  have x1 : w1.cell? ⟨w.heap.size, 1, none⟩ = some (.slice A N.tr.length ca) := by rw [cell_of_row w1 _ 1 _ _ _ b10]; rfl
  have x2 : w1.cell? ⟨w.heap.size, 2, none⟩ = some (.slice B N.ch.length cb) := by rw [cell_of_row w1 _ 2 _ _ _ b10]; rfl
  have B10 := Lib.hid b10
  have B11 := Lib.hid b11
  clear hk1 b10 b11
  go_wp2_with fail
  refine (H2.out false _ (hR.no K1.out)).mono ?_
  rintro e w2 ⟨b, sl, L, d, rfl, _, hp, _, _, he, hk2⟩
  have G1 := Lib.hid (free_gr HN.out hp he)
  have K2 := Lib.hid (K1.out.tr hk2)
  have b20 := hk2.heap B10.out (fun h => h)
  have b21 := hk2.heap B11.out (fun h => h)
  have y0 : w2.cell? ⟨w.heap.size, 0, none⟩ = some (.int .i64 N.n) := by rw [cell_of_row w2 _ 0 _ _ _ b20]; rfl
  have y1 : w2.cell? ⟨w.heap.size, 1, none⟩ = some (.slice A N.tr.length ca) := by rw [cell_of_row w2 _ 1 _ _ _ b20]; rfl
  have y2 : w2.cell? ⟨w.heap.size, 2, none⟩ = some (.slice B N.ch.length cb) := by rw [cell_of_row w2 _ 2 _ _ _ b20]; rfl
  have B21 := Lib.hid b21
  clear hk2 b20 b21 hp he
  go_wp2_with fail
  refine (H2.out true _ (hR.no K2.out)).mono ?_
  rintro e w3 ⟨b', sl', L', d', rfl, _, hp, _, _, he, hk3⟩
  have G2 := Lib.hid (free_gr HN.out hp he)
  have K3 := Lib.hid (K2.out.tr hk3)
  have b31 := hk3.heap B21.out (fun h => h)
  have z0 : w3.cell? ⟨w.heap.size + 1, 0, none⟩ = some (.int .i64 0) := by rw [cell_of_row w3 _ 0 _ _ _ b31]; rfl
  have z1 : w3.cell? ⟨w.heap.size + 1, 1, none⟩ = some (.int .i64 0) := by rw [cell_of_row w3 _ 1 _ _ _ b31]; rfl
  have f0 : w3.frozen? ⟨w.heap.size + 1, 0, none⟩ = false := by simp [World.frozen?, b31]
  have f1 : w3.frozen? ⟨w.heap.size + 1, 1, none⟩ = false := by simp [World.frozen?, b31]
  have hlt3 := (Array.getElem?_eq_some_iff.1 b31).1
  clear hk3 b31 hp he
  go_wp2_with fail
  refine bodyPost_ret (v := .tuple #[.agg #[.int .i64 d, .int .i64 d'], .int .i64 0]) (by simp [results, Tryz.results49, go_sem, z0, z1]) rfl ⟨d, d', rfl, G1.out, G2.out, ?_⟩
  exact K3.out.trans ((kp_setOne _ (w.heap.size + 1) _ _).tr (kp_setOne _ (w.heap.size + 1) _ _)) fun k hk e => by
    have e2 : k = w.heap.size + 1 := e
    omega
set_option maxHeartbeats 2000000 in
theorem Greatest_bad (Z : Nz) (c : Int) (hc : ChkIs Z c) (hz : c ≠ 0) (A B : Option Addr) (ca cb : Nat) (w : World) (hR : RdNz w A B Z) :
    Calls Tryz.prog 49 #[netZ Z A B ca cb] w fun e w' => e = .returned (.tuple #[.agg #[.int .i64 0, .int .i64 0], .int .i64 c]) ∧ Kp No w w' := by
  have H1 := Lib.hid (check_bad Z c hc A B ca cb)
  have d1 : (c != 0) = true := by rw [bne_iff_ne]; exact hz
  have d2 : (c == 0) = false := by rw [beq_eq_false_iff_ne]; exact hz
  clear hc hz
  unfold netZ at H1 ⊢
  go_enter Tryz.func49, Tryz.ntmps49
  go_wp2_with fail
  have hk0 : Kp No w _ := (Kp.alloc No w (.cells #[.int .i64 Z.n, .slice A Z.tr.length ca, .slice B Z.ch.length cb] 25)).tr (Kp.alloc No _ (.cells #[.int .i64 0, .int .i64 0] 78))
  have hb1 : ((w.alloc (.cells #[.int .i64 Z.n, .slice A Z.tr.length ca, .slice B Z.ch.length cb] 25)).alloc (.cells #[.int .i64 0, .int .i64 0] 78)).heap[w.heap.size + 1]? = some (.cells #[.int .i64 0, .int .i64 0] 78 (0, 0)) := by
    have := heap_alloc_new (w.alloc (.cells #[.int .i64 Z.n, .slice A Z.tr.length ca, .slice B Z.ch.length cb] 25)) (.cells #[.int .i64 0, .int .i64 0] 78)
    simpa using this
  have K0 := Lib.hid hk0
  have B1 := Lib.hid hb1
  clear hk0 hb1
  refine (H1.out _ (hR.no K0.out)).mono ?_
  rintro e w1 ⟨rfl, hk1⟩
  have K1 := Lib.hid (K0.out.tr hk1)
  have b11 := hk1.heap B1.out (fun h => h)
  have z0 : w1.cell? ⟨w.heap.size + 1, 0, none⟩ = some (.int .i64 0) := by rw [cell_of_row w1 _ 0 _ _ _ b11]; rfl
  have z1 : w1.cell? ⟨w.heap.size + 1, 1, none⟩ = some (.int .i64 0) := by rw [cell_of_row w1 _ 1 _ _ _ b11]; rfl
  have f0 : w1.frozen? ⟨w.heap.size + 1, 0, none⟩ = false := by simp [World.frozen?, b11]
  have f1 : w1.frozen? ⟨w.heap.size + 1, 1, none⟩ = false := by simp [World.frozen?, b11]
  clear hk1 b11
  go_wp2_with fail
  refine bodyPost_ret (v := .tuple #[.agg #[.int .i64 0, .int .i64 0], .int .i64 c]) (by simp [results, Tryz.results49, go_sem, z0, z1]) rfl ⟨rfl, ?_⟩
  exact K1.out.trans ((kp_setOne _ (w.heap.size + 1) _ _).tr (kp_setOne _ (w.heap.size + 1) _ _)) fun k hk e => by
    have e2 : k = w.heap.size + 1 := e
    omega
/-- The least set of least outgoing capacity, in a list. -/
def Cu (N : Net) (h : Bool) (R : Nat → Bool) : Prop := Min N.A1 (N.out h) R
theorem free_cut {N : Net} (hN : N.Ok) {h : Bool} {L : List Pi} {d : Int} {b : Nat → Option Stp} {m : Nat} (hp : Pushed (N.lay h (List.replicate N.ch.length top)) L 0 N.n d) (he : d = 120000000000000 ∨ ∃ b m, Lab L 0 b m ∧ Clo (Rs 0 b) L ∧ Rs 0 b N.n = false) (hl : Lab L 0 b m) (hc : Clo (Rs 0 b) L) : Cu N h (Rs 0 b) := by
  obtain ⟨b', m', h1, h2, h3⟩ := free_end hN hp he
  have hn : Rs 0 b N.n = false := by
    cases hr : Rs 0 b N.n with
    | false => rfl
    | true =>
      have := hl.min h2 (by simp [Rs]) N.n (rs_iff.1 hr)
      rw [h3] at this
      cases this
  exact (push_free hN (M := top) (by unfold top; omega) hp hl hc hn).1
end Go.Proofs.YtpkbpeeelpgmcaaGreat

namespace Go.Kq
open Go.RowKit

theorem run_any {P : Program} {w : World} (t ty : TypeId) (base : Nat) (e : TypeId) (i : TypeInfo) (z : Value) (size bytes : Nat) (ht : P.underlying t = some (.slice e)) (hi : P.info? e = some i) (hz : i.zero = some z)
    (hsize : i.size = size) (hby : i.bytes = bytes) (hzs : z.cells.size = size) (hsz : 0 < size)
    (v : Value) (n : Nat) (xs : List Value) (hown : w.ownsRow base e size v n xs)
    (ao : Option Addr) (m c : Nat) (news : List Value) (hl : news.length = m * size) (hnone : ao = none → m = 0 ∧ c = 0) (hnews : ∀ ad, ao = some ad → ∀ j u, news[j]? = some u → w.cell? (ad.add j) = some u) (h1 : ∀ u ∈ news, u.oneCell' = true)
    (h63 : n + m ≤ maxLen) (hbytes : (n + m) * bytes ≤ 140737488355328) (hbase : base ≤ w.heap.size) :
    ∃ v' w', (Builtin.append_ #[t, t] ty #[v, .slice ao m c]).run P w = .ok v' w' ∧ w'.ownsRow base e size v' (n + m) (xs ++ news) ∧ w.grownBy w' v.ownBlock ∧ (v' = .slice none 0 0 → v = .slice none 0 0) := by
  cases ao with
  | some ad =>
    obtain ⟨v', w', h2, h3, h4, h5, _⟩ := run_append_own_at (P := P) w base t ty e i z size bytes ht hi hz hsize hby hzs hsz v n xs hown ad m c news hl (hnews ad rfl) h1 h63 hbytes hbase
    exact ⟨v', w', h2, h3, h4, fun h => (h5.1 h).1⟩
  | none =>
    obtain ⟨rfl, rfl⟩ := hnone rfl
    have hn : news = [] := List.length_eq_zero_iff.1 (by simpa using hl)
    exact ⟨v, w, run_append_owned_none (P := P) (w := w) base t ty e i size ht hi v n xs hown, by simpa [hn] using hown, World.grownBy.refl _ _, fun h => h⟩
theorem stepS_append {P : Program} {w : World} {ops : Array Oper} {o : Oper} {a : Act} {K : Act → World → Prop} {Q : Exit → Act → World → Prop} {E : Prop} (hgd : o.guard = none) (s x : Operand) (t : TypeId)
    (ho : o.op = .call { callee := .builtin .append, args := #[s, x], argTypes := #[t, t] })
    (base : Nat) (e : TypeId) (i : TypeInfo) (z : Value) (size bytes : Nat) (ht : P.underlying t = some (.slice e)) (hi : P.info? e = some i) (hz : i.zero = some z)
    (hsize : i.size = size) (hby : i.bytes = bytes) (hzs : z.cells.size = size) (hsz : 0 < size)
    (v : Value) (n : Nat) (xs : List Value) (hs : a.eval s = v) (hown : w.ownsRow base e size v n xs)
    (ao : Option Addr) (m c : Nat) (news : List Value) (hx : a.eval x = .slice ao m c) (hl : news.length = m * size) (hnone : ao = none → m = 0 ∧ c = 0) (hnews : ∀ ad, ao = some ad → ∀ j u, news[j]? = some u → w.cell? (ad.add j) = some u) (h1 : ∀ u ∈ news, u.oneCell' = true)
    (h63 : n + m ≤ maxLen) (hbytes : (n + m) * bytes ≤ 140737488355328) (hbase : base ≤ w.heap.size) (nm : Nat) (hnm : n + m = nm) (ys : List Value) (hys : xs ++ news = ys)
    (h : ∀ v' w', w'.ownsRow base e size v' nm ys → w.grownBy w' v.ownBlock → (v' = .slice none 0 0 → v = .slice none 0 0) → K (a.put o.dst v') w') :
    if Region.wanted o (yielded ops a.tmps) = true then Oper.wp P o a w K Q else E := by
  subst hnm hys
  have hw : Region.wanted o (yielded ops a.tmps) = true := by simp [Region.wanted, hgd]
  rw [if_pos hw]
  obtain ⟨v', w', hr, h2, h3, h4⟩ := run_any (P := P) (w := w) t o.type base e i z size bytes ht hi hz hsize hby hzs hsz v n xs hown ao m c news hl hnone hnews h1 h63 hbytes hbase
  unfold Oper.wp execOp
  simp only [ho, resolve, invoke, builtin, Sem.run_bind, Sem.run_pure, Result.andThen_ok, List.map_toArray, List.map_cons, List.map_nil, hs, hx, hr]
  exact h v' w' h2 h3 h4
end Go.Kq
