/- Chapter 14: the walk of Check. -/
import Derived.Laws.EntriesVeiled
import Derived.Test.YtpkbpeeelpgmcaaGreatXNwChk
namespace Go.Proofs.YtpkbpeeelpgmcaaGreat
open Go.RowKit Go.Kq Go.Flow

def NLong (N : Nz) : Prop := 24 < N.n ∨ 60 < N.tr.length ∨ 16 < N.ch.length
def ChOk (N : Nz) (i : Nat) : Prop := ∀ c, N.ch[i]? = some c → 1 ≤ c ∧ c < N.n ∧ ∀ p, 0 < i → N.ch[i - 1]? = some p → p < c
def NBad (N : Nz) : Prop := N.n < 1 ∨ (∃ t ∈ N.tr, ¬ t.good N.n) ∨ ∃ i, ¬ ChOk N i
def ChkIs (N : Nz) (c : Int) : Prop := (NLong N ∧ c = 3) ∨ (¬ NLong N ∧ NBad N ∧ c = 2) ∨ (¬ NLong N ∧ ¬ NBad N ∧ c = 0)
theorem ChkIs.uniq {N : Nz} {c d : Int} (h : ChkIs N c) (k : ChkIs N d) : c = d := by
  rcases h with ⟨h1, h2⟩ | ⟨h1, h2, h3⟩ | ⟨h1, h2, h3⟩ <;> rcases k with ⟨k1, k2⟩ | ⟨k1, k2, k3⟩ | ⟨k1, k2, k3⟩ <;> first | omega | exact absurd h1 k1 | exact absurd k1 h1 | exact absurd h2 k2 | exact absurd k2 h2
def netZ (N : Nz) (A B : Option Addr) (ca cb : Nat) : Value := .agg #[.int .i64 N.n, .slice A N.tr.length ca, .slice B N.ch.length cb]
set_option maxHeartbeats 4000000 in
set_option maxRecDepth 100000 in
theorem Check_any (N : Nz) (A B : Option Addr) (ca cb : Nat) (w : World) (hR : RdNz w A B N) :
    Calls Tryz.prog 31 #[netZ N A B ca cb] w fun e w' => ∃ c, e = .returned (.int .i64 c) ∧ ChkIs N c ∧ Kp No w w' := by
  have hst := fun (w : World) (a : Addr) (f : Fn) ts cs => run_store Tryz.prog w a (.func f ts cs) .plain rfl
  unfold netZ
  by_cases h1 : 24 < N.n
  · go_enter Tryz.func31, Tryz.ntmps31
    go_wp2
    go_ret
    exact ⟨_, rfl, .inl ⟨.inl h1, rfl⟩, ((Kp.alloc _ _ _).tr (Kp.alloc _ _ _))⟩
  · by_cases h2 : 60 < N.tr.length
    · go_enter Tryz.func31, Tryz.ntmps31
      go_wp2
      go_ret
      exact ⟨_, rfl, .inl ⟨.inr (.inl h2), rfl⟩, ((Kp.alloc _ _ _).tr (Kp.alloc _ _ _))⟩
    · by_cases h3 : 16 < N.ch.length
      · go_enter Tryz.func31, Tryz.ntmps31
        go_wp2
        go_ret
        exact ⟨_, rfl, .inl ⟨.inr (.inr h3), rfl⟩, ((Kp.alloc _ _ _).tr (Kp.alloc _ _ _))⟩
      · have HL := Lib.hid (show ¬ NLong N from fun h => by unfold NLong at h; omega)
        by_cases h4 : N.n < 1
        · go_enter Tryz.func31, Tryz.ntmps31
          go_wp2
          go_ret
          exact ⟨_, rfl, .inr (.inl ⟨HL.out, .inl h4, rfl⟩), ((Kp.alloc _ _ _).tr (Kp.alloc _ _ _))⟩
        · go_enter Tryz.func31, Tryz.ntmps31
          go_wp2_with fail
          refine (contains_any N.tr N.n A N.tr.length ca (w.heap.size + 1) w.heap.size _ (hR.tr.no ((Kp.alloc _ _ _).tr (Kp.alloc _ _ _))) (by omega) (by go_simp) (by go_simp)).mono ?_
          rintro e w1 ⟨r, rfl, hr, hk1⟩
          have hkw := ((Kp.alloc No w (.cells #[.int .i64 N.n, .slice A N.tr.length ca, .slice B N.ch.length cb] 25)).tr (Kp.alloc No _ (.cells #[.func (.func 58) #[] #[.pointer (some ⟨w.heap.size, 0, none⟩)]] 107))).tr hk1
          have hbx := hk1.heap ((Kp.alloc No _ (.cells #[.func (.func 58) #[] #[.pointer (some ⟨w.heap.size, 0, none⟩)]] 107)).heap (heap_alloc_new w (.cells #[.int .i64 N.n, .slice A N.tr.length ca, .slice B N.ch.length cb] 25)) (fun h => h)) (fun h => h)
          have hfx : w1.heap[w.heap.size + 1]? = some (.cells #[.func (.func 58) #[] #[.pointer (some ⟨w.heap.size, 0, none⟩)]] 107 (0, 0)) := by
            refine hk1.heap ?_ (fun h => h)
            have := heap_alloc_new (w.alloc (.cells #[.int .i64 N.n, .slice A N.tr.length ca, .slice B N.ch.length cb] 25)) (.cells #[.func (.func 58) #[] #[.pointer (some ⟨w.heap.size, 0, none⟩)]] 107)
            simpa using this
          have HR := Lib.hid hr
          have HBX := Lib.hid hbx
          have HFX := Lib.hid hfx
          clear hr hk1 hbx hfx hst
          have b2 : w1.cell? ⟨w.heap.size, 2, none⟩ = some (.slice B N.ch.length cb) := by rw [cell_of_row w1 _ 2 _ _ _ HBX.out]; rfl
          cases r with
          | true =>
            go_wp2_with fail
            go_ret
            exact ⟨_, rfl, .inr (.inl ⟨HL.out, .inr (.inl (HR.out.1 (by trivial))), rfl⟩), hkw⟩
          | false =>
            have HTR := Lib.hid (show ¬ ∃ t ∈ N.tr, ¬ t.good N.n from fun h => by have := HR.out.2 h; cases this)
            go_wp2_with fail
            go_loopw [38] (fun i wr => ∃ k : Nat, k ≤ N.ch.length ∧ i = .int .i64 k ∧ (∀ j, j < k → ChOk N j) ∧ Kp No w1 wr) (fun i _ => N.ch.length - (intOf i).toNat)
            case atStart => exact ⟨0, by omega, rfl, fun j hj => by omega, Kp.refl _ _⟩
            case round =>
              obtain ⟨k, hk, rfl, hok, hkp⟩ := hrel
              have HOK := Lib.hid hok
              clear hok
              by_cases hlt : k < N.ch.length
              · obtain ⟨c, hc⟩ : ∃ c, N.ch[k]? = some c := ⟨_, List.getElem?_eq_getElem hlt⟩
                obtain ⟨bb, o, rfl, hbb, x0⟩ := (hR.ch.no (hkw.tr hkp)).2 k c hc
                have hcn : wr.cell? ⟨w.heap.size, 0, none⟩ = some (.int .i64 N.n) := by rw [cell_of_row wr _ 0 _ _ _ (hkp.heap HBX.out (fun h => h))]; rfl
                have hcs : wr.cell? ⟨w.heap.size, 2, none⟩ = some (.slice (some ⟨bb, o, none⟩) N.ch.length cb) := hkp.cell b2 (fun h => h)
                have hfn : wr.cell? ⟨w.heap.size + 1, 0, none⟩ = some (.func (.func 58) #[] #[.pointer (some ⟨w.heap.size, 0, none⟩)]) := by rw [cell_of_row wr _ 0 _ _ _ (hkp.heap HFX.out (fun h => h))]; rfl
                have HC := Lib.hid hc
                clear hc
                by_cases hc1 : c < 1
                · have HNB := Lib.hid (show NBad N from .inr (.inr ⟨k, fun h => by have := h c HC.out; omega⟩))
                  go_wp2_with fail
                  go_ret
                  exact ⟨_, rfl, .inr (.inl ⟨HL.out, HNB.out, rfl⟩), hkw.tr hkp⟩
                · by_cases hc2 : c < N.n
                  · have dn : decide (0 ≤ c ∧ c < N.n) = true := by rw [decide_eq_true_eq]; omega
                    cases k with
                    | zero =>
                      simp only [Nat.add_zero] at x0
                      have HK1 := Lib.hid (show ∀ j, j < 1 → ChOk N j from fun j hj c' hc' => by
                        obtain rfl : j = 0 := by omega
                        rw [HC.out] at hc'
                        cases hc'
                        exact ⟨by omega, hc2, fun p h => by omega⟩)
                      go_wp2_with fail
                      refine (node_any c N.n w.heap.size _ hcn).mono ?_
                      rw [dn]
                      rintro e w4 ⟨rfl, rfl⟩
                      go_wp2_with fail
                      go_roundw
                      case rel => exact ⟨1, by omega, rfl, HK1.out, hkp⟩
                      case measure => simp [intOf]; omega
                    | succ k =>
                      obtain ⟨p, hp⟩ : ∃ p, N.ch[k]? = some p := ⟨_, List.getElem?_eq_getElem (by omega)⟩
                      obtain ⟨bb2, o2, hbo, _, x1⟩ := (hR.ch.no (hkw.tr hkp)).2 k p hp
                      cases hbo
                      have HP := Lib.hid hp
                      clear hp
                      by_cases hcp : c ≤ p
                      · have HNB := Lib.hid (show NBad N from .inr (.inr ⟨k + 1, fun h => by have := (h c HC.out).2.2 p (by omega) (by simpa using HP.out); omega⟩))
                        go_wp2_with fail
                        refine (node_any c N.n w.heap.size _ hcn).mono ?_
                        rw [dn]
                        rintro e w4 ⟨rfl, rfl⟩
                        go_wp2_with fail
                        go_ret
                        exact ⟨_, rfl, .inr (.inl ⟨HL.out, HNB.out, rfl⟩), hkw.tr hkp⟩
                      · have HK1 := Lib.hid (show ∀ j, j < k + 1 + 1 → ChOk N j from fun j hj => by
                          by_cases e : j = k + 1
                          · intro c' hc'
                            rw [e, HC.out] at hc'
                            cases hc'
                            refine ⟨by omega, hc2, fun p' _ hp' => ?_⟩
                            rw [e, show k + 1 - 1 = k by omega, HP.out] at hp'
                            cases hp'
                            omega
                          · exact HOK.out j (by omega))
                        go_wp2_with fail
                        refine (node_any c N.n w.heap.size _ hcn).mono ?_
                        rw [dn]
                        rintro e w4 ⟨rfl, rfl⟩
                        go_wp2_with fail
                        go_roundw
                        case rel => exact ⟨k + 1 + 1, by omega, by go_num, HK1.out, hkp⟩
                        case measure => simp [intOf]; omega
                  · have dn : decide (0 ≤ c ∧ c < N.n) = false := by rw [decide_eq_false_iff_not]; omega
                    have HNB := Lib.hid (show NBad N from .inr (.inr ⟨k, fun h => by have := h c HC.out; omega⟩))
                    go_wp2_with fail
                    refine (node_any c N.n w.heap.size _ hcn).mono ?_
                    rw [dn]
                    rintro e w4 ⟨rfl, rfl⟩
                    go_wp2_with fail
                    go_ret
                    exact ⟨_, rfl, .inr (.inl ⟨HL.out, HNB.out, rfl⟩), hkw.tr hkp⟩
              · have HNB := Lib.hid (show ¬ NBad N from fun h => by
                  rcases h with h | h | ⟨i, h⟩
                  · exact absurd h (by omega)
                  · exact HTR.out h
                  · refine h fun c hc => ?_
                    have := (List.getElem?_eq_some_iff.1 hc).1
                    exact HOK.out i (by omega) c hc)
                go_wp2_with fail
                go_ret
                exact ⟨_, rfl, .inr (.inr ⟨HL.out, HNB.out, rfl⟩), hkw.tr hkp⟩

/-! ### valid networks -/
def tkz (t : Tk) : Tz := ⟨t.fr, t.to, t.lo, t.hi⟩
def nz (N : Net) : Nz := ⟨N.n, N.tr.map tkz, N.ch.map Int.ofNat⟩
theorem nz_good {N : Net} (hN : N.Ok) : ∀ t ∈ N.tr, (tkz t).good N.n := fun t ht => by
  have := hN.tk t ht
  exact ⟨by show (0 : Int) ≤ t.fr; omega, by show (t.fr : Int) < N.n; omega, by show (0 : Int) ≤ t.to; omega, by show (t.to : Int) < N.n; omega, by show (t.fr : Int) ≠ t.to; omega, this.2.2.2.1, this.2.2.2.2.1, this.2.2.2.2.2⟩
theorem chk_ok {N : Net} (hN : N.Ok) : ChkIs (nz N) 0 := by
  have h1 := hN.n1
  have h2 := hN.n2
  have h3 := hN.t1
  have h4 := hN.c1
  refine .inr (.inr ⟨?_, ?_, rfl⟩)
  · intro h
    simp only [NLong, nz, List.length_map] at h
    omega
  · rintro (h | ⟨t, ht, hb⟩ | ⟨i, h⟩)
    · have : (N.n : Int) < 1 := h
      omega
    · obtain ⟨u, hu, rfl⟩ := List.mem_map.1 ht
      exact hb (nz_good hN u hu)
    · refine h fun c hc => ?_
      simp only [nz, List.getElem?_map] at hc ⊢
      obtain ⟨d, hd, rfl⟩ := Option.map_eq_some_iff.1 hc
      have hk := hN.ck d (List.mem_of_getElem? hd)
      refine ⟨by show (1 : Int) ≤ (d : Int); omega, by show (d : Int) < N.n; omega, fun p hi hp => ?_⟩
      obtain ⟨q, hq, rfl⟩ := Option.map_eq_some_iff.1 hp
      have hlt := (List.getElem?_eq_some_iff.1 hd).1
      have := List.pairwise_iff_getElem.1 hN.asc (i - 1) i (by omega) hlt (by omega)
      rw [(List.getElem?_eq_some_iff.1 hq).2, (List.getElem?_eq_some_iff.1 hd).2] at this
      show (q : Int) < (d : Int)
      omega
theorem chk_zero {Z : Nz} (h : ChkIs Z 0) : ∃ N : Net, N.Ok ∧ Z = nz N := by
  rcases h with ⟨_, h⟩ | ⟨_, _, h⟩ | ⟨h1, h2, _⟩
  · omega
  · omega
  · have hl : ¬ (24 < Z.n ∨ 60 < Z.tr.length ∨ 16 < Z.ch.length) := h1
    have hn : ¬ Z.n < 1 := fun h => h2 (.inl h)
    have ht : ∀ t ∈ Z.tr, t.good Z.n := fun t ht => Decidable.byContradiction fun hb => h2 (.inr (.inl ⟨t, ht, hb⟩))
    have hc : ∀ i, ChOk Z i := fun i => Classical.byContradiction fun hb => h2 (.inr (.inr ⟨i, hb⟩))
    obtain ⟨n, tr, ch⟩ := Z
    simp only at hl hn ht
    refine ⟨⟨n.toNat, tr.map fun t => ⟨t.fr.toNat, t.to.toNat, t.lo, t.hi⟩, ch.map Int.toNat⟩, ⟨by show 1 ≤ n.toNat; omega, by show n.toNat ≤ 24; omega, by show (tr.map _).length ≤ 60; rw [List.length_map]; omega, by show (ch.map _).length ≤ 16; rw [List.length_map]; omega, fun t h => ?_, fun c h => ?_, ?_⟩, ?_⟩
    · obtain ⟨u, hu, rfl⟩ := List.mem_map.1 h
      have := ht u hu
      unfold Tz.good at this
      exact ⟨by show u.fr.toNat < n.toNat; omega, by show u.to.toNat < n.toNat; omega, by show u.fr.toNat ≠ u.to.toNat; omega, this.2.2.2.2.2.1, this.2.2.2.2.2.2.1, this.2.2.2.2.2.2.2⟩
    · obtain ⟨u, hu, rfl⟩ := List.mem_map.1 h
      obtain ⟨i, hi⟩ := List.mem_iff_getElem?.1 hu
      have h3 := hc i u hi
      have h4 : u < n := h3.2.1
      have h5 := h3.1
      constructor
      · omega
      · show u.toNat < n.toNat
        omega
    · refine List.pairwise_map.2 (List.pairwise_iff_getElem.2 fun i j hi hj hij => ?_)
      have key : ∀ (d i : Nat) (hd : i + d + 1 < ch.length), ch[i]'(by omega) < ch[i + d + 1] := by
        intro d
        induction d with
        | zero =>
          intro i hd
          have := (hc (i + 1) ch[i + 1] (List.getElem?_eq_getElem hd)).2.2 ch[i] (by omega) (by simp)
          exact this
        | succ d ih =>
          intro i hd
          have h1 := ih i (by omega)
          have h2 := (hc (i + d + 1 + 1) ch[i + d + 1 + 1] (List.getElem?_eq_getElem (by omega))).2.2 ch[i + d + 1] (by omega) (by simp)
          exact Int.lt_trans h1 h2
      have h1 := key (j - i - 1) i (by omega)
      have h2 := (hc i ch[i] (List.getElem?_eq_getElem hi)).1
      simp only [show i + (j - i - 1) + 1 = j by omega] at h1
      omega
    · simp only [nz, List.map_map]
      have e1 : (n.toNat : Int) = n := by omega
      have e2 : tr.map (tkz ∘ fun t => (⟨t.fr.toNat, t.to.toNat, t.lo, t.hi⟩ : Tk)) = tr := by
        conv => rhs; rw [← List.map_id tr]
        refine List.map_congr_left fun t h => ?_
        have := ht t h
        unfold Tz.good at this
        obtain ⟨a, b, c, d⟩ := t
        simp only at this
        simp only [Function.comp, tkz, id, Tz.mk.injEq, and_true]
        omega
      have e3 : ch.map (Int.ofNat ∘ Int.toNat) = ch := by
        conv => rhs; rw [← List.map_id ch]
        refine List.map_congr_left fun c h => ?_
        obtain ⟨i, hi⟩ := List.mem_iff_getElem?.1 h
        have := (hc i c hi).1
        simp only [Function.comp, id]
        show ((c.toNat : Nat) : Int) = c
        omega
      rw [e1, e2, e3]
theorem rd_map {α β : Type} {f : α → List Value} {g : β → List Value} {φ : β → α} (hfg : ∀ x, f (φ x) = g x) {s : Nat} {w : World} {A : Option Addr} {n : Nat} {l : List β} : Rd f s w A n (l.map φ) ↔ Rd g s w A n l := by
  constructor
  · rintro ⟨h1, h2⟩
    refine ⟨by simpa using h1, fun i v hv => ?_⟩
    obtain ⟨b, o, hA, hb, hc⟩ := h2 i (φ v) (by rw [List.getElem?_map, hv]; rfl)
    exact ⟨b, o, hA, hb, fun j u hj => hc j u (by rw [hfg]; exact hj)⟩
  · rintro ⟨h1, h2⟩
    refine ⟨by simpa using h1, fun i v hv => ?_⟩
    rw [List.getElem?_map] at hv
    obtain ⟨x, hx, rfl⟩ := Option.map_eq_some_iff.1 hv
    obtain ⟨b, o, hA, hb, hc⟩ := h2 i x hx
    exact ⟨b, o, hA, hb, fun j u hj => hc j u (by rw [← hfg]; exact hj)⟩
theorem rdnet_z {w : World} {A B : Option Addr} {N : Net} (h : RdNz w A B (nz N)) : RdNet w A B N := by
  obtain ⟨h1, h2⟩ := h
  simp only [nz, List.length_map] at h1 h2
  exact ⟨(rd_map (φ := tkz) (fun x => rfl)).1 h1, h2⟩
theorem netZ_nz (N : Net) (A B : Option Addr) (ca cb : Nat) : netZ (nz N) A B ca cb = netV N A B ca cb := by simp [netZ, netV, nz]
end Go.Proofs.YtpkbpeeelpgmcaaGreat
