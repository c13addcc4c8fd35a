/- Spans of fractions: pis: the walk. Printed by gen_nud.py. -/
import Derived.Test.YtamjhpdgclbfgaaGreatXNtxM
namespace Go.Proofs.YtamjhpdgclbfgaaGreat
open Go.RowKit Go.Kq

theorem RowQ.snoc2 {base : Nat} {wr w1 w5 : World} {v v' : Value} {qs : List Rat} {q q' : Rat} {K g : Nat} {n d n' d' : Value} {m : Nat} (hm : qs.length = m) (hw : Kp No wr w1) (hn : IsNew g w1 n q.num.natAbs K) (hd : IsNew g w1 d q.den K) (hn' : IsNew g w1 n' q'.num.natAbs K) (hd' : IsNew g w1 d' q'.den K) (hB : wr.heap.size ≤ g)
    (hgrow : w1.grownBy w5 v.ownBlock) (hat : v'.ownBlock = v.ownBlock ∨ v'.ownBlock = some w1.heap.size) (es : List (Bool × Value × Value)) (he1 : es.length = qs.length) (he2 : wr.ownsRow base 76 3 v m (es.flatMap qC)) (he3 : ∀ (i : Nat) e q, es[i]? = some e → qs[i]? = some q → QEl wr v K e q)
    (hown : w5.ownsRow base 76 3 v' (m + 2) (es.flatMap qC ++ [.bool (negQ q), n, d, .bool (negQ q'), n', d'])) : RowQ base w5 v' (qs ++ [q, q']) K := by
  subst hm
  have hk : Kp (fun k => v.ownBlock = some k) w1 w5 := Kp.grown hgrow fun k hk _ => hk
  have fresh : ∀ x N, IsNew g w1 x N K → ∀ b, NatBlk x b → v.ownBlock ≠ some b := fun x N hx b hb e => by
    have h1 := (own_ge he2 e).2
    have := hx.2.blk hb
    omega
  have turn : ∀ x : Value, (∀ b, NatBlk x b → v.ownBlock ≠ some b) → (∀ b, NatBlk x b → b < w1.heap.size) → ∀ b, NatBlk x b → v'.ownBlock ≠ some b := fun x h1 h2 b hb e => by
    rcases hat with hat | hat
    · exact h1 b hb (hat ▸ e)
    · rw [hat] at e
      have := h2 b hb
      injection e with e
      omega
  have new : ∀ (q : Rat) (n d : Value), IsNew g w1 n q.num.natAbs K → IsNew g w1 d q.den K → QEl w5 v' K (negQ q, n, d) q := fun q n d hn hd =>
    ⟨rfl, hn.1.kpB hk (fun b hb e => fresh _ _ hn b hb e), hd.1.kpB hk (fun b hb e => fresh _ _ hd b hb e), turn _ (fresh _ _ hn) (fun b hb => hn.1.blk hb), turn _ (fresh _ _ hd) (fun b hb => hd.1.blk hb)⟩
  refine ⟨es ++ [(negQ q, n, d), (negQ q', n', d')], by simp [he1], by simpa [qC] using hown, fun i e r he hr => ?_⟩
  rcases Nat.lt_or_ge i es.length with hi | hi
  · rw [List.getElem?_append_left hi] at he
    rw [List.getElem?_append_left (by omega)] at hr
    have hE := (he3 i e r he hr).no hw
    exact ⟨hE.s, hE.n.kpB hk (fun b hb e => hE.nb b hb e), hE.d.kpB hk (fun b hb e => hE.db b hb e), turn _ hE.nb (fun b hb => hE.n.blk hb), turn _ hE.db (fun b hb => hE.d.blk hb)⟩
  · rw [List.getElem?_append_right hi] at he
    rw [List.getElem?_append_right (by omega)] at hr
    rw [← he1] at hr
    match h0 : i - es.length, he, hr with
    | 0, he, hr => simp at he hr; subst he hr; exact new _ _ _ hn hd
    | 1, he, hr => simp at he hr; subst he hr; exact new _ _ _ hn' hd'
    | k + 2, he, hr => simp at he
theorem newsQ2 (w : World) (a b c a' b' c' : Value) (t : TypeId) : ∀ j u, [a, b, c, a', b', c'][j]? = some u → (w.alloc (.cells #[a, b, c, a', b', c'] t)).cell? ((⟨w.heap.size, 0, none⟩ : Addr).add j) = some u := by
  intro j u hu
  rw [add_at, Nat.zero_add, cell_of_row _ _ _ _ _ _ (heap_alloc_new w _)]
  simpa using hu
theorem opPi (w0 : World) (u v : Value) (x y : Rat) (g : Nat) (hg : g ≤ w0.heap.size) (hu : IsQuo w0 u x 14) (hv : IsQuo w0 v y 5) : Calls Tryz.prog 52 #[u, v] w0 fun e w' => ∃ z, e = .returned (.tuple #[z, .int .i64 0]) ∧ QuoNew g w' z (x * y) 20 ∧ Kp No w0 w' := by
  refine (qmul_is u v x y 14 5 w0 hu hv (by omega)).mono ?_
  rintro e w' ⟨z, rfl, hz, hk⟩
  exact ⟨z, rfl, hz.mono hg, hk⟩
def piL : Rat := ((3141592653589793238 : Int) : Rat) / ((1000000000000000000 : Int) : Rat)
def piH : Rat := ((3141592653589793239 : Int) : Rat) / ((1000000000000000000 : Int) : Rat)
def pisL : List Rat → List Rat
  | [] => []
  | q :: l => q * piL :: q * piH :: pisL l
theorem pisL_take : ∀ (l : List Rat) (i : Nat) (q : Rat), l[i]? = some q → pisL (l.take (i + 1)) = pisL (l.take i) ++ [q * piL, q * piH]
  | [], i, q, h => by simp at h
  | x :: l, 0, q, h => by simp at h; subst h; rfl
  | x :: l, i + 1, q, h => by
    have := pisL_take l i q (by simpa using h)
    simp only [List.take_succ_cons, pisL, this]
    rfl
theorem pisL_len : ∀ l : List Rat, (pisL l).length = 2 * l.length
  | [] => rfl
  | q :: l => by simp only [pisL, List.length_cons, pisL_len l]; omega
set_option maxHeartbeats 4000000 in
set_option maxRecDepth 100000 in
theorem pis_is (b n cap : Nat) (l : List Rat) (w : World) (hl : l.length = n) (hn : n ≤ 100) (hp : 0 < n) (hq : QAtK 14 w b l) :
    Calls Tryz.prog 40 #[.slice (some ⟨b, 0, none⟩) n cap] w fun e w' => ∃ g c, e = .returned (.slice (some ⟨g, 0, none⟩) (2 * n) c) ∧ QAtK 20 w' g (pisL l) ∧ Kp No w w' := by
  obtain ⟨i0, hi, hz0, hz1, hz2⟩ := info_parts infoQ
  have HI := Lib.hid hi
  have HL := Lib.hid hl
  have HQ := Lib.hid hq
  have OVL := Lib.hid (fun w0 => show Calls Tryz.prog 51 #[.int .i64 3141592653589793238, .int .i64 1000000000000000000] w0 fun e w' => ∃ z, e = .returned z ∧ QuoNew w0.heap.size w' z piL 5 ∧ Kp No w0 w' from over_is 3141592653589793238 1000000000000000000 w0 (by omega) (by omega) (by omega))
  have OVH := Lib.hid (fun w0 => show Calls Tryz.prog 51 #[.int .i64 3141592653589793239, .int .i64 1000000000000000000] w0 fun e w' => ∃ z, e = .returned z ∧ QuoNew w0.heap.size w' z piH 5 ∧ Kp No w0 w' from over_is 3141592653589793239 1000000000000000000 w0 (by omega) (by omega) (by omega))
  have hnI : (n : Int) ≤ 100 := by omega
  clear hl hq
  go_enter Tryz.func40, Tryz.ntmps40
  go_wp2_with fail
  go_loopw [3, 4] (fun v s wr => ∃ (i : Nat), i ≤ n ∧ s = .int .i64 i ∧ RowQ w.heap.size wr v (pisL (l.take i)) 20 ∧ Kp No w wr) (fun _ s _ => n - (intOf s).toNat)
  case atStart => exact ⟨0, by omega, rfl, RowQ.nil _ _ _, Kp.refl _ _⟩
  case round =>
    obtain ⟨i, hi2, rfl, hR, hkp⟩ := hrel
    have HR := Lib.hid hR
    have KP := Lib.hid hkp
    clear hR hkp
    by_cases hlt : i < n
    · obtain ⟨p, hp⟩ : ∃ p, l[i]? = some p := ⟨_, List.getElem?_eq_getElem (by have := HL.out; omega)⟩
      obtain ⟨np, dp, c0, c1, c2, hip⟩ := HQ.out i p hp
      obtain ⟨Ap, mp, cp, Bp, mp2, cp2, rfl, rfl, _, _⟩ := hip.lens
      have HT := Lib.hid (pisL_take l i p hp)
      have hlen : (pisL (l.take i)).length = 2 * i := by rw [pisL_len, List.length_take, HL.out]; omega
      replace c0 := KP.out.cell c0 id
      replace c1 := KP.out.cell c1 id
      replace c2 := KP.out.cell c2 id
      have QI := Lib.hid (hip.no KP.out)
      obtain ⟨sp, hsp⟩ : ∃ s, negQ p = s := ⟨_, rfl⟩
      rw [hsp] at c0 QI
      have OPL := Lib.hid (fun w0 u v g hg hu hv => opPi w0 u v p piL g hg hu hv)
      have OPH := Lib.hid (fun w0 u v g hg hu hv => opPi w0 u v p piH g hg hu hv)
      obtain ⟨es, he1, he2, he3⟩ := HR.out
      rw [hlen] at he2
      obtain ⟨av, cv, rfl, _, _, _⟩ := own_form he2
      have HE := Lib.hid (And.intro he1 (And.intro he2 he3))
      have hi0 : (0 : Int) ≤ (i : Int) := by omega
      have hi1 : (i : Int) < (n : Int) := by omega
      have hi9 : IntKind.i64.wrap ((i : Int) + 1) = (i : Int) + 1 := by rw [IntKind.wrap_i64]; omega
      clear hp hip hsp he1 he2 he3
      generalize p * piL = ql at *
      generalize p * piH = qh at *
      generalize piL = pl at *
      generalize piH = ph at *
      go_wp2_with fail
      have FS : Stab (fun ix wz u => (ix = 4 → QuoNew 0 wz u (pl) 5) ∧ (ix = 5 → TupQ wr.heap.size wz u (ql) 20) ∧ (ix = 6 → TupQ wr.heap.size wz u (ql) 20) ∧ (ix = 7 → QuoNew wr.heap.size wz u (ql) 20) ∧ True) := fun ix u wz wz' kz h => ⟨fun e => QuoNew.no (h.1 e) kz, fun e => TupQ.no (h.2.1 e) kz, fun e => TupQ.no (h.2.2.1 e) kz, fun e => QuoNew.no (h.2.2.2.1 e) kz, trivial⟩
      have FB : ∀ (g : Nat) (wz wz' : World), Kp (Kq.One g) wz wz' → wz.heap[g]? = some (.cells #[.bool false, .slice none 0 0, .slice none 0 0] 76 (0, 0)) → ∀ (ix : Nat) (u : Value), ((fun ix wz u => (ix = 4 → QuoNew 0 wz u (pl) 5) ∧ (ix = 5 → TupQ wr.heap.size wz u (ql) 20) ∧ (ix = 6 → TupQ wr.heap.size wz u (ql) 20) ∧ (ix = 7 → QuoNew wr.heap.size wz u (ql) 20) ∧ True : Nat → World → Value → Prop) ix wz u) → ((fun ix wz u => (ix = 4 → QuoNew 0 wz u (pl) 5) ∧ (ix = 5 → TupQ wr.heap.size wz u (ql) 20) ∧ (ix = 6 → TupQ wr.heap.size wz u (ql) 20) ∧ (ix = 7 → QuoNew wr.heap.size wz u (ql) 20) ∧ True : Nat → World → Value → Prop) ix wz' u) := fun g wz wz' kz hz ix u h => ⟨fun e => QuoNew.kpZ (h.1 e) kz hz, fun e => TupQ.kpZ (h.2.1 e) kz hz, fun e => TupQ.kpZ (h.2.2.1 e) kz hz, fun e => QuoNew.kpZ (h.2.2.2.1 e) kz hz, trivial⟩
      replace FS := Lib.hid FS
      replace FB := Lib.hid FB
      refine wp_region_each (fun ix u => match ix with | 0 => u = .slice (some ⟨b, 0, none⟩) n cap | 1 => u = .int .i64 (i : Nat) | 2 => u = .pointer (some ⟨b, i * 3, none⟩) | 3 => u = .agg #[.bool sp, .slice Ap mp cp, .slice Bp mp2 cp2] | 8 => u = .int .i64 0 | 11 => u = .int .i64 0 | _ => True) (HvA wr 76 #[.bool false, .slice none 0 0, .slice none 0 0] 9 10 7 (fun ix wz u => (ix = 4 → QuoNew 0 wz u (pl) 5) ∧ (ix = 5 → TupQ wr.heap.size wz u (ql) 20) ∧ (ix = 6 → TupQ wr.heap.size wz u (ql) 20) ∧ (ix = 7 → QuoNew wr.heap.size wz u (ql) 20) ∧ True)) (by kernel_rfl) (by kernel_rfl) (by kernel_rfl) ?_ ?_ ?_
      · exact HvA.start _ _ _ _ _ _ _
      · refine ⟨?_, ?_, ?_, ?_, ?_, ?_, ?_, ?_, ?_, ?_, ?_, ?_, trivial⟩
        · intro r a w' hf hg hW hr hd K hK
          refine wpOp_of rfl rfl ?_
          have e0 : a.tmps.getD 0 undef = .slice (some ⟨b, 0, none⟩) n cap := hf.evalFree (by kernel_rfl)
          go_simp
          exact hK _ _ rfl (hW.upd 0 _ hr (by decide) (by decide) ⟨fun e => absurd e (by decide), fun e => absurd e (by decide), fun e => absurd e (by decide), fun e => absurd e (by decide), trivial⟩)
        · intro r a w' hf hg hW hr hd K hK
          refine wpOp_of rfl rfl ?_
          have e0 : a.tmps.getD 4 undef = .int .i64 (i : Nat) := hf.evalFree (by kernel_rfl)
          go_simp
          exact hK _ _ rfl (hW.upd 1 _ hr (by decide) (by decide) ⟨fun e => absurd e (by decide), fun e => absurd e (by decide), fun e => absurd e (by decide), fun e => absurd e (by decide), trivial⟩)
        · intro r a w' hf hg hW hr hd K hK
          refine wpOp_of rfl rfl ?_
          refine hf.depE hg hd 0 16 (by kernel_rfl) fun u0 e0 g0 h0 => ?_
          replace g0 : u0 = .slice (some ⟨b, 0, none⟩) n cap := g0
          subst g0
          refine hf.depE hg hd 1 17 (by kernel_rfl) fun u1 e1 g1 h1 => ?_
          replace g1 : u1 = .int .i64 (i : Nat) := g1
          subst g1
          go_simp
          exact hK _ _ rfl (hW.upd 2 _ hr (by decide) (by decide) ⟨fun e => absurd e (by decide), fun e => absurd e (by decide), fun e => absurd e (by decide), fun e => absurd e (by decide), trivial⟩)
        · intro r a w' hf hg hW hr hd K hK
          refine wpOp_of rfl rfl ?_
          refine hf.depE hg hd 2 18 (by kernel_rfl) fun u0 e0 g0 h0 => ?_
          replace g0 : u0 = .pointer (some ⟨b, i * 3, none⟩) := g0
          subst g0
          have z0 := hW.kp.cell c0 id
          have z1 := hW.kp.cell c1 id
          have z2 := hW.kp.cell c2 id
          go_simp
          exact hK _ _ rfl (hW.upd 3 _ hr (by decide) (by decide) ⟨fun e => absurd e (by decide), fun e => absurd e (by decide), fun e => absurd e (by decide), fun e => absurd e (by decide), trivial⟩)
        · intro r a w' hf hg hW hr hd K hK
          refine wpOp_of rfl rfl ?_
          go_simp
          with_reducible refine (OVL.out _).mono ?_
          rintro e w'' ⟨z, rfl, hz, k⟩
          exact hK _ _ trivial ((hW.call FS.out k).upd 4 _ hr (by decide) (by decide) ⟨fun _ => hz.mono (Nat.zero_le _), fun e => absurd e (by decide), fun e => absurd e (by decide), fun e => absurd e (by decide), trivial⟩)
        · intro r a w' hf hg hW hr hd K hK
          refine wpOp_of rfl rfl ?_
          refine hf.depE hg hd 3 19 (by kernel_rfl) fun u0 e0 g0 h0 => ?_
          replace g0 : u0 = .agg #[.bool sp, .slice Ap mp cp, .slice Bp mp2 cp2] := g0
          subst g0
          refine hf.depE hg hd 4 20 (by kernel_rfl) fun u1 e1 g1 h1 => ?_
          have f1 := (hW.hv 4 u1 h1).1 rfl
          go_simp
          with_reducible refine (OPL.out _ _ _ _ hW.kp.size (QI.out.no hW.kp) f1.is).mono ?_
          rintro e w'' ⟨z, rfl, hz, k⟩
          exact hK _ _ trivial ((hW.call FS.out k).upd 5 _ hr (by decide) (by decide) ⟨fun e => absurd e (by decide), fun _ => ⟨z, rfl, hz⟩, fun e => absurd e (by decide), fun e => absurd e (by decide), trivial⟩)
        · intro r a w' hf hg hW hr hd K hK
          refine wpOp_of rfl rfl ?_
          refine hf.depE hg hd 5 21 (by kernel_rfl) fun u0 e0 g0 h0 => ?_
          have f0 := (hW.hv 5 u0 h0).2.1 rfl
          go_simp
          exact hK _ _ trivial (hW.upd 6 _ hr (by decide) (by decide) ⟨fun e => absurd e (by decide), fun e => absurd e (by decide), fun _ => f0, fun e => absurd e (by decide), trivial⟩)
        · intro r a w' hf hg hW hr hd K hK
          refine wpOp_of rfl rfl ?_
          refine hf.depE hg hd 6 15 (by kernel_rfl) fun u0 e0 g0 h0 => ?_
          have f0 := (hW.hv 6 u0 h0).2.2.1 rfl
          obtain ⟨z, rfl, hz⟩ := f0
          go_simp
          exact hK _ _ trivial (hW.upd 7 _ hr (by decide) (by decide) ⟨fun e => absurd e (by decide), fun e => absurd e (by decide), fun e => absurd e (by decide), fun _ => hz, trivial⟩)
        · intro r a w' hf hg hW hr hd K hK
          refine wpOp_of rfl rfl ?_
          refine hf.depE hg hd 6 15 (by kernel_rfl) fun u0 e0 g0 h0 => ?_
          have f0 := (hW.hv 6 u0 h0).2.2.1 rfl
          obtain ⟨z, rfl, hz⟩ := f0
          go_simp
          exact hK _ _ rfl (hW.upd 8 _ hr (by decide) (by decide) ⟨fun e => absurd e (by decide), fun e => absurd e (by decide), fun e => absurd e (by decide), fun e => absurd e (by decide), trivial⟩)
        · intro r a w' hf hg hW hr hd K hK
          refine wpOp_of rfl rfl ?_
          go_simp
          exact hK _ _ trivial (hW.alloc FS.out hr (by decide) ⟨fun e => absurd e (by decide), fun e => absurd e (by decide), fun e => absurd e (by decide), fun e => absurd e (by decide), trivial⟩)
        · intro r a w' hf hg hW hr hd K hK
          refine wpOp_of rfl rfl ?_
          refine hf.depE hg hd 9 5 (by kernel_rfl) fun u0 e0 g0 h0 => ?_
          refine hf.depE hg hd 7 22 (by kernel_rfl) fun u1 e1 g1 h1 => ?_
          have f1 := (hW.hv 7 u1 h1).2.2.2.1 rfl
          obtain ⟨n, d, rfl, hn, hd⟩ := f1
          obtain ⟨An, mn, cn, _, rfl, _⟩ := hn.1.pos
          obtain ⟨Ad, md, cd, _, rfl, _⟩ := hd.1.pos
          obtain ⟨g0, rfl, hg0, hh0⟩ := hW.b0 hr _ h0
          obtain ⟨x0, x1, x2, y0, y1, y2⟩ := three_cells hh0
          go_simp
          exact hK undef _ trivial (hW.store h0 hg0 (FB.out _ _ _ (kp_setQ _ _ _ _ _) hh0) (by decide) (by decide) h1 (kp_setQ _ _ _ _ _) (setQ_at hh0 _ _ _) _ ⟨fun e => absurd e (by decide), fun e => absurd e (by decide), fun e => absurd e (by decide), fun e => absurd e (by decide), trivial⟩)
        · intro r a w' hf hg hW hr hd K hK
          refine wpOp_of rfl rfl ?_
          refine hf.depE hg hd 8 23 (by kernel_rfl) fun u0 e0 g0 h0 => ?_
          replace g0 : u0 = .int .i64 0 := g0
          subst g0
          go_simp
          exact hK _ _ rfl (hW.upd 11 _ hr (by decide) (by decide) ⟨fun e => absurd e (by decide), fun e => absurd e (by decide), fun e => absurd e (by decide), fun e => absurd e (by decide), trivial⟩)
      intro r' we hg hW hr'
      have hkN := hW.kp
      obtain ⟨q7, hq7⟩ : ∃ u, r' 7 = some u := Option.ne_none_iff_exists'.1 (hr' 7 (by decide))
      have hF7 := (hW.hv 7 q7 hq7).2.2.2.1 rfl
      obtain ⟨q8, hq8⟩ : ∃ u, r' 8 = some u := Option.ne_none_iff_exists'.1 (hr' 8 (by decide))
      have hk8 := hg 8 q8 hq8
      replace hk8 : q8 = .int .i64 0 := hk8
      subst hk8
      obtain ⟨g0, cs, hg0, hl0, hcs, hB⟩ := hW.b1 (hr' 10 (by decide))
      simp only [List.length_cons, List.length_nil, Nat.reduceAdd, List.range_succ, List.range_zero, List.nil_append, List.cons_append, List.map_cons, List.map_nil, putAll, Act.put, List.setIfInBounds_toArray, List.set_cons_succ, List.set_cons_zero, hq7, hq8, hg0, Option.getD_some]
      clear hg hW hr' FS FB hg0 hq8
      rw [hq7] at hcs
      injection hcs with hcs
      subst hcs
      obtain ⟨n1, d1, e, hn1, hd1⟩ := hF7
      injection e with e
      subst e
      obtain ⟨An1, mn1, cn1, _, rfl, _⟩ := hn1.1.pos
      obtain ⟨Ad1, md1, cd1, _, rfl, _⟩ := hd1.1.pos
      replace QI := Lib.hid (QI.out.no hkN)
      replace c0 := hkN.cell c0 id
      replace c1 := hkN.cell c1 id
      replace c2 := hkN.cell c2 id
      have KE := Lib.hid hkN
      have HNL := Lib.hid hn1
      have HDL := Lib.hid hd1
      have HBL := Lib.hid hB
      clear hkN hn1 hd1 hB OPL
      generalize g0 = gL at *
      have hlL := Lib.hid hl0
      clear hl0
      go_wp2_with fail
      have FS : Stab (fun ix wz u => (ix = 4 → QuoNew 0 wz u (ph) 5) ∧ (ix = 5 → TupQ we.heap.size wz u (qh) 20) ∧ (ix = 6 → TupQ we.heap.size wz u (qh) 20) ∧ (ix = 7 → QuoNew we.heap.size wz u (qh) 20) ∧ True) := fun ix u wz wz' kz h => ⟨fun e => QuoNew.no (h.1 e) kz, fun e => TupQ.no (h.2.1 e) kz, fun e => TupQ.no (h.2.2.1 e) kz, fun e => QuoNew.no (h.2.2.2.1 e) kz, trivial⟩
      have FB : ∀ (g : Nat) (wz wz' : World), Kp (Kq.One g) wz wz' → wz.heap[g]? = some (.cells #[.bool false, .slice none 0 0, .slice none 0 0] 76 (0, 0)) → ∀ (ix : Nat) (u : Value), ((fun ix wz u => (ix = 4 → QuoNew 0 wz u (ph) 5) ∧ (ix = 5 → TupQ we.heap.size wz u (qh) 20) ∧ (ix = 6 → TupQ we.heap.size wz u (qh) 20) ∧ (ix = 7 → QuoNew we.heap.size wz u (qh) 20) ∧ True : Nat → World → Value → Prop) ix wz u) → ((fun ix wz u => (ix = 4 → QuoNew 0 wz u (ph) 5) ∧ (ix = 5 → TupQ we.heap.size wz u (qh) 20) ∧ (ix = 6 → TupQ we.heap.size wz u (qh) 20) ∧ (ix = 7 → QuoNew we.heap.size wz u (qh) 20) ∧ True : Nat → World → Value → Prop) ix wz' u) := fun g wz wz' kz hz ix u h => ⟨fun e => QuoNew.kpZ (h.1 e) kz hz, fun e => TupQ.kpZ (h.2.1 e) kz hz, fun e => TupQ.kpZ (h.2.2.1 e) kz hz, fun e => QuoNew.kpZ (h.2.2.2.1 e) kz hz, trivial⟩
      replace FS := Lib.hid FS
      replace FB := Lib.hid FB
      refine wp_region_each (fun ix u => match ix with | 0 => u = .slice (some ⟨b, 0, none⟩) n cap | 1 => u = .int .i64 (i : Nat) | 2 => u = .pointer (some ⟨b, i * 3, none⟩) | 3 => u = .agg #[.bool sp, .slice Ap mp cp, .slice Bp mp2 cp2] | 8 => u = .int .i64 0 | 11 => u = .int .i64 0 | _ => True) (HvA we 76 #[.bool false, .slice none 0 0, .slice none 0 0] 9 10 7 (fun ix wz u => (ix = 4 → QuoNew 0 wz u (ph) 5) ∧ (ix = 5 → TupQ we.heap.size wz u (qh) 20) ∧ (ix = 6 → TupQ we.heap.size wz u (qh) 20) ∧ (ix = 7 → QuoNew we.heap.size wz u (qh) 20) ∧ True)) (by kernel_rfl) (by kernel_rfl) (by kernel_rfl) ?_ ?_ ?_
      · exact HvA.start _ _ _ _ _ _ _
      · refine ⟨?_, ?_, ?_, ?_, ?_, ?_, ?_, ?_, ?_, ?_, ?_, ?_, trivial⟩
        · intro r a w' hf hg hW hr hd K hK
          refine wpOp_of rfl rfl ?_
          have e0 : a.tmps.getD 0 undef = .slice (some ⟨b, 0, none⟩) n cap := hf.evalFree (by kernel_rfl)
          go_simp
          exact hK _ _ rfl (hW.upd 0 _ hr (by decide) (by decide) ⟨fun e => absurd e (by decide), fun e => absurd e (by decide), fun e => absurd e (by decide), fun e => absurd e (by decide), trivial⟩)
        · intro r a w' hf hg hW hr hd K hK
          refine wpOp_of rfl rfl ?_
          have e0 : a.tmps.getD 4 undef = .int .i64 (i : Nat) := hf.evalFree (by kernel_rfl)
          go_simp
          exact hK _ _ rfl (hW.upd 1 _ hr (by decide) (by decide) ⟨fun e => absurd e (by decide), fun e => absurd e (by decide), fun e => absurd e (by decide), fun e => absurd e (by decide), trivial⟩)
        · intro r a w' hf hg hW hr hd K hK
          refine wpOp_of rfl rfl ?_
          refine hf.depE hg hd 0 25 (by kernel_rfl) fun u0 e0 g0 h0 => ?_
          replace g0 : u0 = .slice (some ⟨b, 0, none⟩) n cap := g0
          subst g0
          refine hf.depE hg hd 1 26 (by kernel_rfl) fun u1 e1 g1 h1 => ?_
          replace g1 : u1 = .int .i64 (i : Nat) := g1
          subst g1
          go_simp
          exact hK _ _ rfl (hW.upd 2 _ hr (by decide) (by decide) ⟨fun e => absurd e (by decide), fun e => absurd e (by decide), fun e => absurd e (by decide), fun e => absurd e (by decide), trivial⟩)
        · intro r a w' hf hg hW hr hd K hK
          refine wpOp_of rfl rfl ?_
          refine hf.depE hg hd 2 27 (by kernel_rfl) fun u0 e0 g0 h0 => ?_
          replace g0 : u0 = .pointer (some ⟨b, i * 3, none⟩) := g0
          subst g0
          have z0 := hW.kp.cell c0 id
          have z1 := hW.kp.cell c1 id
          have z2 := hW.kp.cell c2 id
          go_simp
          exact hK _ _ rfl (hW.upd 3 _ hr (by decide) (by decide) ⟨fun e => absurd e (by decide), fun e => absurd e (by decide), fun e => absurd e (by decide), fun e => absurd e (by decide), trivial⟩)
        · intro r a w' hf hg hW hr hd K hK
          refine wpOp_of rfl rfl ?_
          go_simp
          with_reducible refine (OVH.out _).mono ?_
          rintro e w'' ⟨z, rfl, hz, k⟩
          exact hK _ _ trivial ((hW.call FS.out k).upd 4 _ hr (by decide) (by decide) ⟨fun _ => hz.mono (Nat.zero_le _), fun e => absurd e (by decide), fun e => absurd e (by decide), fun e => absurd e (by decide), trivial⟩)
        · intro r a w' hf hg hW hr hd K hK
          refine wpOp_of rfl rfl ?_
          refine hf.depE hg hd 3 28 (by kernel_rfl) fun u0 e0 g0 h0 => ?_
          replace g0 : u0 = .agg #[.bool sp, .slice Ap mp cp, .slice Bp mp2 cp2] := g0
          subst g0
          refine hf.depE hg hd 4 29 (by kernel_rfl) fun u1 e1 g1 h1 => ?_
          have f1 := (hW.hv 4 u1 h1).1 rfl
          go_simp
          with_reducible refine (OPH.out _ _ _ _ hW.kp.size (QI.out.no hW.kp) f1.is).mono ?_
          rintro e w'' ⟨z, rfl, hz, k⟩
          exact hK _ _ trivial ((hW.call FS.out k).upd 5 _ hr (by decide) (by decide) ⟨fun e => absurd e (by decide), fun _ => ⟨z, rfl, hz⟩, fun e => absurd e (by decide), fun e => absurd e (by decide), trivial⟩)
        · intro r a w' hf hg hW hr hd K hK
          refine wpOp_of rfl rfl ?_
          refine hf.depE hg hd 5 30 (by kernel_rfl) fun u0 e0 g0 h0 => ?_
          have f0 := (hW.hv 5 u0 h0).2.1 rfl
          go_simp
          exact hK _ _ trivial (hW.upd 6 _ hr (by decide) (by decide) ⟨fun e => absurd e (by decide), fun e => absurd e (by decide), fun _ => f0, fun e => absurd e (by decide), trivial⟩)
        · intro r a w' hf hg hW hr hd K hK
          refine wpOp_of rfl rfl ?_
          refine hf.depE hg hd 6 24 (by kernel_rfl) fun u0 e0 g0 h0 => ?_
          have f0 := (hW.hv 6 u0 h0).2.2.1 rfl
          obtain ⟨z, rfl, hz⟩ := f0
          go_simp
          exact hK _ _ trivial (hW.upd 7 _ hr (by decide) (by decide) ⟨fun e => absurd e (by decide), fun e => absurd e (by decide), fun e => absurd e (by decide), fun _ => hz, trivial⟩)
        · intro r a w' hf hg hW hr hd K hK
          refine wpOp_of rfl rfl ?_
          refine hf.depE hg hd 6 24 (by kernel_rfl) fun u0 e0 g0 h0 => ?_
          have f0 := (hW.hv 6 u0 h0).2.2.1 rfl
          obtain ⟨z, rfl, hz⟩ := f0
          go_simp
          exact hK _ _ rfl (hW.upd 8 _ hr (by decide) (by decide) ⟨fun e => absurd e (by decide), fun e => absurd e (by decide), fun e => absurd e (by decide), fun e => absurd e (by decide), trivial⟩)
        · intro r a w' hf hg hW hr hd K hK
          refine wpOp_of rfl rfl ?_
          go_simp
          exact hK _ _ trivial (hW.alloc FS.out hr (by decide) ⟨fun e => absurd e (by decide), fun e => absurd e (by decide), fun e => absurd e (by decide), fun e => absurd e (by decide), trivial⟩)
        · intro r a w' hf hg hW hr hd K hK
          refine wpOp_of rfl rfl ?_
          refine hf.depE hg hd 9 7 (by kernel_rfl) fun u0 e0 g0 h0 => ?_
          refine hf.depE hg hd 7 31 (by kernel_rfl) fun u1 e1 g1 h1 => ?_
          have f1 := (hW.hv 7 u1 h1).2.2.2.1 rfl
          obtain ⟨n, d, rfl, hn, hd⟩ := f1
          obtain ⟨An, mn, cn, _, rfl, _⟩ := hn.1.pos
          obtain ⟨Ad, md, cd, _, rfl, _⟩ := hd.1.pos
          obtain ⟨g0, rfl, hg0, hh0⟩ := hW.b0 hr _ h0
          obtain ⟨x0, x1, x2, y0, y1, y2⟩ := three_cells hh0
          go_simp
          exact hK undef _ trivial (hW.store h0 hg0 (FB.out _ _ _ (kp_setQ _ _ _ _ _) hh0) (by decide) (by decide) h1 (kp_setQ _ _ _ _ _) (setQ_at hh0 _ _ _) _ ⟨fun e => absurd e (by decide), fun e => absurd e (by decide), fun e => absurd e (by decide), fun e => absurd e (by decide), trivial⟩)
        · intro r a w' hf hg hW hr hd K hK
          refine wpOp_of rfl rfl ?_
          refine hf.depE hg hd 8 32 (by kernel_rfl) fun u0 e0 g0 h0 => ?_
          replace g0 : u0 = .int .i64 0 := g0
          subst g0
          go_simp
          exact hK _ _ rfl (hW.upd 11 _ hr (by decide) (by decide) ⟨fun e => absurd e (by decide), fun e => absurd e (by decide), fun e => absurd e (by decide), fun e => absurd e (by decide), trivial⟩)
      intro r' wf hg hW hr'
      have hkN := hW.kp
      obtain ⟨q7, hq7⟩ : ∃ u, r' 7 = some u := Option.ne_none_iff_exists'.1 (hr' 7 (by decide))
      have hF7 := (hW.hv 7 q7 hq7).2.2.2.1 rfl
      obtain ⟨q8, hq8⟩ : ∃ u, r' 8 = some u := Option.ne_none_iff_exists'.1 (hr' 8 (by decide))
      have hk8 := hg 8 q8 hq8
      replace hk8 : q8 = .int .i64 0 := hk8
      subst hk8
      obtain ⟨g0, cs, hg0, hl0, hcs, hB⟩ := hW.b1 (hr' 10 (by decide))
      simp only [List.length_cons, List.length_nil, Nat.reduceAdd, List.range_succ, List.range_zero, List.nil_append, List.cons_append, List.map_cons, List.map_nil, putAll, Act.put, List.setIfInBounds_toArray, List.set_cons_succ, List.set_cons_zero, hq7, hq8, hg0, Option.getD_some]
      clear hg hW hr' FS FB hg0 hq8
      rw [hq7] at hcs
      injection hcs with hcs
      subst hcs
      obtain ⟨n2, d2, e, hn2, hd2⟩ := hF7
      injection e with e
      subst e
      obtain ⟨An2, mn2, cn2, _, rfl, _⟩ := hn2.1.pos
      obtain ⟨Ad2, md2, cd2, _, rfl, _⟩ := hd2.1.pos
      obtain ⟨a0, a1, a2, _⟩ := three_cells (hkN.heap HBL.out id)
      obtain ⟨b0, b1, b2, _⟩ := three_cells hB
      have KF := Lib.hid ((KE.out.tr hkN).tr (Kp.alloc No wf (.cells #[.bool (negQ ql), .slice An1 mn1 cn1, .slice Ad1 md1 cd1, .bool (negQ qh), .slice An2 mn2 cn2, .slice Ad2 md2 cd2] 76)))
      have ka := Kp.alloc No wf (.cells #[.bool (negQ ql), .slice An1 mn1 cn1, .slice Ad1 md1 cd1, .bool (negQ qh), .slice An2 mn2 cn2, .slice Ad2 md2 cd2] 76)
      have N1 := Lib.hid ((HNL.out.no hkN).no ka)
      have D1 := Lib.hid ((HDL.out.no hkN).no ka)
      have N2 := Lib.hid ((hn2.mono KE.out.size).no ka)
      have D2 := Lib.hid ((hd2.mono KE.out.size).no ka)
      have OW := Lib.hid (own_kp HE.out.2.1 KF.out (fun _ _ h => h))
      have HNW := Lib.hid (newsQ2 wf (.bool (negQ ql)) (.slice An1 mn1 cn1) (.slice Ad1 md1 cd1) (.bool (negQ qh)) (.slice An2 mn2 cn2) (.slice Ad2 md2 cd2) 76)
      clear hn2 hd2 hkN hB c0 c1 c2 QI OPH ka HNL HDL
      go_wp2_with (at_builtin; refine stop_in ?_)
      refine stop_out ?_
      refine wpL_append_any rfl _ _ 71 rfl w.heap.size 76 i0 (.agg #[.bool false, .slice none 0 0, .slice none 0 0]) 3 56 Tryz.underlying71 HI.out hz0 hz1 hz2 rfl (by decide) (.slice av (2 * i) cv) (2 * i) (es.flatMap qC) rfl OW.out (some ⟨wf.heap.size, 0, none⟩) 2 2 [.bool (negQ ql), .slice An1 mn1 cn1, .slice Ad1 md1 cd1, .bool (negQ qh), .slice An2 mn2 cn2, .slice Ad2 md2 cd2] rfl rfl (fun h => by cases h) (fun ad had j u hu => by cases had; exact HNW.out j u hu) (fun u hu => by simp at hu; rcases hu with rfl | rfl | rfl | rfl | rfl | rfl <;> rfl) (by unfold maxLen; omega) (by omega) (by have h1 := KP.out.size; have h2 := KF.out.size; simp at h2; simp; omega) ?_
      intro v' w5 hown hgrow hat
      have R5 := Lib.hid (RowQ.snoc2 hlen KF.out N1.out D1.out N2.out D2.out (Nat.le_refl _) hgrow hat es HE.out.1 HE.out.2.1 HE.out.2.2 hown)
      have K5 := Lib.hid (show Kp No w w5 from (KP.out.tr KF.out).trans (Kp.grown hgrow fun g hg _ => (own_ge HE.out.2.1 hg).1) (fun g hg h => absurd h (Nat.not_le.2 hg)))
      clear hown hgrow hat a0 a1 a2 b0 b1 b2
      go_wp2_with fail
      go_round
      case rel => exact ⟨i + 1, by omega, by go_num, by rw [HT.out]; exact R5.out, K5.out⟩
      case measure => simp [intOf] <;> omega
    · obtain rfl : i = n := by omega
      have hR9 := HR.out
      rw [List.take_of_length_le (by rw [HL.out]; omega)] at hR9
      have hlp : (pisL l).length = 2 * i := by rw [pisL_len, HL.out]
      obtain ⟨g, c, rfl, hq⟩ := hR9.at_ (by omega)
      rw [hlp]
      have HQ2 := Lib.hid hq
      clear hR9 HR hq
      go_wp2_with fail
      go_ret
      exact ⟨g, c, rfl, HQ2.out, KP.out⟩
end Go.Proofs.YtamjhpdgclbfgaaGreat
