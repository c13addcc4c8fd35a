/- Maps as lists of keys and elements: laws for look-up, store, 'm[k] op= v' and ranging; over any program. -/
import Derived.Maps.RangeRun
import Derived.Maps.Keyed
import Derived.Laws.StructEq
import Derived.WalkKit
namespace Go.Kq
open Go.MapKept (Stamped stamped_iff stamped_empty stamped_push stamped_modify run_checkKey run_findKey findNow_spec run_keyThatStays)
open Go.RowKit
open Go.ChangeMaps (setBlock heap_setBlock_same heap_setBlock_other modify_eq_set)

section lists
variable {κ ν : Type} [DecidableEq κ]
def get1 (E : List (κ × ν)) (k : κ) : Option ν := (E.find? fun p => decide (p.1 = k)).map (·.2)
def keys (E : List (κ × ν)) : List κ := E.map (·.1)
/-- The element at a key is replaced, or a new entry comes last. -/
def ins (k : κ) (v : ν) : List (κ × ν) → List (κ × ν)
  | [] => [(k, v)]
  | p :: E => if p.1 = k then (k, v) :: E else p :: ins k v E

theorem get1_nil (k : κ) : get1 ([] : List (κ × ν)) k = none := rfl
theorem get1_cons (p : κ × ν) (E : List (κ × ν)) (k : κ) : get1 (p :: E) k = if p.1 = k then some p.2 else get1 E k := by
  unfold get1
  by_cases h : p.1 = k <;> simp [h]
theorem get1_ins (k : κ) (v : ν) : ∀ (E : List (κ × ν)) (j : κ), get1 (ins k v E) j = if k = j then some v else get1 E j
  | [], j => by simp [ins, get1_cons, get1_nil]
  | p :: E, j => by
    unfold ins
    by_cases h : p.1 = k
    · simp only [h, if_true, get1_cons]
      split <;> rfl
    · simp only [h, if_false, get1_cons, get1_ins k v E j]
      by_cases hj : p.1 = j
      · have : ¬ k = j := fun e => h (hj.trans e.symm)
        simp [hj, this]
      · simp [hj]
theorem mem_keys_ins (k : κ) (v : ν) : ∀ (E : List (κ × ν)) (j : κ), j ∈ keys (ins k v E) ↔ j = k ∨ j ∈ keys E
  | [], j => by simp [ins, keys]
  | p :: E, j => by
    unfold ins
    by_cases h : p.1 = k
    · simp [h, keys]
    · have := mem_keys_ins k v E j
      simp only [keys] at this
      simp only [h, if_false, keys, List.map_cons, List.mem_cons, this]
      constructor
      · rintro (h | h | h) <;> simp [h]
      · rintro (h | h | h) <;> simp [h]
theorem get1_none_iff (E : List (κ × ν)) (k : κ) : get1 E k = none ↔ k ∉ keys E := by
  induction E with
  | nil => simp [get1_nil, keys]
  | cons p E ih =>
    rw [get1_cons]
    by_cases h : p.1 = k
    · simp [h, keys]
    · simp only [h, if_false, ih, keys, List.map_cons, List.mem_cons, not_or]
      exact ⟨fun h' => ⟨fun e => h e.symm, h'⟩, fun h' => h'.2⟩
theorem ins_ins (k : κ) (u v : ν) : ∀ E : List (κ × ν), ins k v (ins k u E) = ins k v E
  | [] => by simp [ins]
  | p :: E => by
    by_cases h : p.1 = k
    · simp [ins, h]
    · simp [ins, h, ins_ins k u v E]
theorem nodup_ins (k : κ) (v : ν) : ∀ E : List (κ × ν), (keys E).Nodup → (keys (ins k v E)).Nodup
  | [], _ => by simp [ins, keys]
  | p :: E, h => by
    unfold ins
    simp only [keys, List.map_cons, List.nodup_cons] at h
    by_cases hk : p.1 = k
    · simp only [hk, if_true, keys, List.map_cons, List.nodup_cons]
      exact ⟨by rw [← hk]; exact h.1, h.2⟩
    · simp only [hk, if_false, keys, List.map_cons, List.nodup_cons]
      refine ⟨fun hm => ?_, nodup_ins k v E h.2⟩
      rcases (mem_keys_ins k v E p.1).1 hm with e | hm
      · exact hk e
      · exact h.1 hm
theorem ins_not_mem (k : κ) (v : ν) : ∀ E : List (κ × ν), k ∉ keys E → ins k v E = E ++ [(k, v)]
  | [], _ => rfl
  | p :: E, h => by
    simp only [keys, List.map_cons, List.mem_cons, not_or] at h
    unfold ins
    rw [if_neg (fun e => h.1 e.symm), ins_not_mem k v E h.2]
    rfl
theorem ins_at (k : κ) (v : ν) : ∀ (E : List (κ × ν)) (j : Nat) (u : ν), (keys E).Nodup → E[j]? = some (k, u) → ins k v E = E.set j (k, v)
  | [], _, _, _, h => by simp at h
  | p :: E, 0, u, _, h => by
    simp at h
    subst h
    simp [ins]
  | p :: E, j + 1, u, hn, h => by
    simp only [keys, List.map_cons, List.nodup_cons] at hn
    have hm : k ∈ keys E := List.mem_map.2 ⟨(k, u), List.mem_of_getElem? (by simpa using h), rfl⟩
    have hne : ¬ p.1 = k := fun e => hn.1 (by rw [e]; exact hm)
    simp only [ins, hne, if_false, List.set_cons_succ]
    rw [ins_at k v E j u hn.2 (by simpa using h)]
theorem get1_at : ∀ (E : List (κ × ν)) (j : Nat) (k : κ) (u : ν), (keys E).Nodup → E[j]? = some (k, u) → get1 E k = some u
  | [], _, _, _, _, h => by simp at h
  | p :: E, 0, k, u, _, h => by
    simp at h
    subst h
    simp [get1_cons]
  | p :: E, j + 1, k, u, hn, h => by
    simp only [keys, List.map_cons, List.nodup_cons] at hn
    have hm : k ∈ keys E := List.mem_map.2 ⟨(k, u), List.mem_of_getElem? (by simpa using h), rfl⟩
    have hne : ¬ p.1 = k := fun e => hn.1 (by rw [e]; exact hm)
    rw [get1_cons, if_neg hne]
    exact get1_at E j k u hn.2 (by simpa using h)
theorem get1_mem {E : List (κ × ν)} {k : κ} {v : ν} (hn : (keys E).Nodup) (h : (k, v) ∈ E) : get1 E k = some v := by
  obtain ⟨j, hj⟩ := List.getElem?_of_mem h
  exact get1_at E j k v hn hj

end lists


/-! ### what is asked of a key's type -/
structure KeyOk (P : Program) (t : TypeId) {κ : Type} (ek : κ → Value) : Prop where
  inj : ∀ {a b : κ}, ek a = ek b → a = b
  check : ∀ (w : World) (em : Bool) (k : κ), (Instr.checkKey em 10000 t (ek k)).run P w = .ok () w
  find : ∀ (w : World) (x : κ) (es : List MapEntry), (∀ e ∈ es, ∃ k, e.key = ek k) →
    ((Instr.findKey t (ek x) es).run P w = .ok none w ∧ ∀ e ∈ es, e.key ≠ ek x) ∨ ∃ j e, (Instr.findKey t (ek x) es).run P w = .ok (some (j, e.val)) w ∧ es[j]? = some e ∧ e.key = ek x
  stays : ∀ (w : World) (k : κ), (Instr.keyThatStays (ek k) (ek k)).run P w = .ok (ek k) w

theorem intKey_ok {P : Program} {t : TypeId} (hk : P.underlying t = some (.int .i64)) : KeyOk P t (Value.int .i64) := by
  refine ⟨fun h => (by injection h), fun w em n => run_checkKey hk (by simp [MapKept.IsKey]) em 9999, fun w n es hes => ?_, fun w n => run_keyThatStays (d := .int .i64) (by simp [MapKept.IsKey])⟩
  have hks : ∀ y ∈ es, MapKept.IsKey (.int .i64) y.key := fun y hy => by
    obtain ⟨m, hm⟩ := hes y hy
    rw [hm]
    simp [MapKept.IsKey]
  rcases findNow_spec (by simp [MapKept.IsKey] : MapKept.IsKey (.int .i64) (.int .i64 n)) es 0 hks with ⟨h1, h2⟩ | ⟨j, e0, h1, h2, h3⟩
  · exact Or.inl ⟨run_findKey hk h1, h2⟩
  · exact Or.inr ⟨j, e0, by simpa using run_findKey hk h1, h2, h3⟩

/-- A struct as a key: '==' compares as Lean does, and 'checkKey' lets its keys by. -/
theorem aggKey_ok {P : Program} {t : TypeId} {κ : Type} [DecidableEq κ] {ek : κ → Value} {fs : Array Field} (hk : P.underlying t = some (.struct fs)) (hi : ∀ {a b : κ}, ek a = ek b → a = b)
    (hc : ∀ (w : World) (em : Bool) (k : κ), (Instr.checkKey em 10000 t (ek k)).run P w = .ok () w)
    (he : ∀ (w : World) (x y : κ), (Op.equal t (ek x) (ek y)).run P w = .ok (decide (x = y)) w)
    (hs : ∀ k, Instr.sameBits 10000 (ek k) (ek k) = true) : KeyOk P t ek := by
  refine ⟨hi, hc, fun w x es hes => ?_, fun w k => by simp [Instr.keyThatStays, hs k]⟩
  have hask : ∀ (es : List MapEntry) (i : Nat), (∀ e ∈ es, ∃ k, e.key = ek k) → ((Instr.findAsking t (ek x) es i).run P w = .ok none w ∧ ∀ e ∈ es, e.key ≠ ek x) ∨
      ∃ j e, (Instr.findAsking t (ek x) es i).run P w = .ok (some (i + j, e.val)) w ∧ es[j]? = some e ∧ e.key = ek x := by
    intro es
    induction es with
    | nil => intro i _; exact Or.inl ⟨by simp [Instr.findAsking], by simp⟩
    | cons e es ih =>
      intro i hes
      obtain ⟨k, hek⟩ := hes e (by simp)
      have h1 := he w x k
      rw [← hek] at h1
      by_cases hxe : x = k
      · subst hxe
        refine Or.inr ⟨0, e, ?_, rfl, hek⟩
        simp only [decide_true] at h1
        simp [Instr.findAsking, h1, Result.andThen]
      · simp only [hxe, decide_false] at h1
        rcases ih (i + 1) (fun y hy => hes y (by simp [hy])) with ⟨h2, h3⟩ | ⟨j, e', h2, h3, h4⟩
        · refine Or.inl ⟨?_, ?_⟩
          · simp [Instr.findAsking, h1, Result.andThen, h2]
          · intro y hy
            rcases List.mem_cons.1 hy with rfl | hy
            · rw [hek]
              exact fun e => hxe (hi e).symm
            · exact h3 y hy
        · refine Or.inr ⟨j + 1, e', ?_, by simpa using h3, h4⟩
          rw [show i + (j + 1) = i + 1 + j by omega]
          simp [Instr.findAsking, h1, Result.andThen, h2]
  cases es with
  | nil => exact Or.inl ⟨by simp [Instr.findKey, run_underlying hk, Instr.findNow], by simp⟩
  | cons e es =>
    have hnow : Instr.findNow (.struct fs) (ek x) (e :: es) 0 = none := by
      simp [Instr.findNow, Instr.sameNow]
    have hrun : (Instr.findKey t (ek x) (e :: es)).run P w = (Instr.findAsking t (ek x) (e :: es)).run P w := by
      simp [Instr.findKey, run_underlying hk, hnow]
    rw [hrun]
    rcases hask (e :: es) 0 hes with h | ⟨j, e', h2, h3, h4⟩
    · exact Or.inl h
    · exact Or.inr ⟨j, e', by simpa using h2, h3, h4⟩

/-! ### a map's block -/
section
variable {κ ν : Type} [DecidableEq κ] {ek : κ → Value} {ev : ν → Value}
variable {P : Program} {w w' : World} {b : Nat} {E : List (κ × ν)}

def pairs (es : Array MapEntry) : List (Value × Value) := es.toList.map fun e => (e.key, e.val)

structure MapIs (w : World) (b : Nat) (ek : κ → Value) (ev : ν → Value) (E : List (κ × ν)) (es : Array MapEntry) (clock : Nat) : Prop where
  at_ : w.heap[b]? = some (.map es clock)
  list : pairs es = E.map fun p => (ek p.1, ev p.2)
  stamped : Stamped es clock
def MapAt (w : World) (b : Nat) (ek : κ → Value) (ev : ν → Value) (E : List (κ × ν)) : Prop := ∃ es clock, MapIs w b ek ev E es clock

omit [DecidableEq κ] in
theorem MapAt.lt (h : MapAt w b ek ev E) : b < w.heap.size := by
  obtain ⟨es, clock, h⟩ := h
  exact (Array.getElem?_eq_some_iff.1 h.at_).1
omit [DecidableEq κ] in
theorem MapAt.notCell (h : MapAt w b ek ev E) (x : Nat) : w.cell? ⟨b, x, none⟩ = none := by
  obtain ⟨es, clock, h⟩ := h
  simp [World.cell?, h.at_]
omit [DecidableEq κ] in
theorem MapIs.nodup {es : Array MapEntry} {clock : Nat} (h : MapIs w b ek ev E es clock) : (keys E).Nodup := by
  have h1 := h.stamped.2.2
  have h2 : es.toList.map (·.key) = (keys E).map ek := by
    have := congrArg (List.map (·.1)) h.list
    simpa [pairs, keys, List.map_map, Function.comp_def] using this
  rw [h2] at h1
  exact (List.pairwise_map.1 h1).imp (fun {a b} h e => h (by rw [e]))
omit [DecidableEq κ] in
theorem MapAt.nodup (h : MapAt w b ek ev E) : (keys E).Nodup := by
  obtain ⟨es, clock, h⟩ := h
  exact h.nodup
omit [DecidableEq κ] in
theorem MapAt.of_block (h : MapAt w b ek ev E) (hb : w'.heap[b]? = w.heap[b]?) : MapAt w' b ek ev E := by
  obtain ⟨es, clock, h⟩ := h
  exact ⟨es, clock, hb.trans h.at_, h.list, h.stamped⟩
omit [DecidableEq κ] in
theorem MapAt.kept {row : Option Nat} (h : MapAt w b ek ev E) (hg : w.grownBy w' row) (hne : some b ≠ row) : MapAt w' b ek ev E := h.of_block (hg.block b h.lt hne)
omit [DecidableEq κ] in
theorem MapAt.alloc (h : MapAt w b ek ev E) (o : Obj) : MapAt (w.alloc o) b ek ev E := h.kept (World.grownBy_alloc w o none) (by simp)
omit [DecidableEq κ] in
theorem MapAt.drew (h : MapAt w b ek ev E) : MapAt w.drew b ek ev E := h.of_block rfl
omit [DecidableEq κ] in
theorem MapAt.below {B : Nat} (h : MapAt w b ek ev E) (hB : Below B w w') (hb : b < B) : MapAt w' b ek ev E := h.of_block (hB.block b hb)
omit [DecidableEq κ] in
theorem MapAt.made (w : World) (ek : κ → Value) (ev : ν → Value) : MapAt (w.alloc (.map #[] 0)) w.heap.size ek ev [] :=
  ⟨#[], 0, (MapKept.heap_alloc w _).1, rfl, stamped_empty 0⟩

theorem grownBy_setBlock {o : Obj} (hb : ∃ o', w.heap[b]? = some o') : w.grownBy (setBlock w b o) (some b) := by
  obtain ⟨o', hb⟩ := hb
  exact ⟨rfl, rfl, rfl, by simp [setBlock], fun i _ hi => by simp only [setBlock]; rw [Array.getElem?_setIfInBounds_ne (fun e => hi (by rw [e]))]⟩

omit [DecidableEq κ] in
theorem MapIs.entry {es : Array MapEntry} {clock : Nat} (h : MapIs w b ek ev E es clock) {j : Nat} {e : MapEntry} (he : es.toList[j]? = some e) : ∃ p, E[j]? = some p ∧ e.key = ek p.1 ∧ e.val = ev p.2 := by
  have h1 : (pairs es)[j]? = some (e.key, e.val) := by rw [pairs, List.getElem?_map, he]; rfl
  rw [h.list, List.getElem?_map] at h1
  obtain ⟨p, hp, hpe⟩ := Option.map_eq_some_iff.1 h1
  simp only [Prod.mk.injEq] at hpe
  exact ⟨p, hp, hpe.1.symm, hpe.2.symm⟩
omit [DecidableEq κ] in
theorem MapIs.entry_mem {es : Array MapEntry} {clock : Nat} (h : MapIs w b ek ev E es clock) {e : MapEntry} (he : e ∈ es.toList) : ∃ p ∈ E, e.key = ek p.1 ∧ e.val = ev p.2 := by
  obtain ⟨j, hj⟩ := List.getElem?_of_mem he
  obtain ⟨p, hp, h1⟩ := h.entry hj
  exact ⟨p, List.mem_of_getElem? hp, h1⟩

theorem MapIs.find {t : TypeId} {es : Array MapEntry} {clock : Nat} (h : MapIs w b ek ev E es clock) (L : KeyOk P t ek) (k : κ) :
    ((Instr.findKey t (ek k) es.toList).run P w = .ok none w ∧ get1 E k = none ∧ ∀ e ∈ es.toList, e.key ≠ ek k) ∨
    ∃ j e v, (Instr.findKey t (ek k) es.toList).run P w = .ok (some (j, ev v)) w ∧ es.toList[j]? = some e ∧ e.key = ek k ∧ e.val = ev v ∧ E[j]? = some (k, v) ∧ get1 E k = some v := by
  rcases L.find w k es.toList (fun e he => by obtain ⟨p, _, h1, _⟩ := h.entry_mem he; exact ⟨p.1, h1⟩) with ⟨h1, h2⟩ | ⟨j, e, h1, h2, h3⟩
  · refine Or.inl ⟨h1, ?_, h2⟩
    rw [get1_none_iff]
    intro hm
    obtain ⟨p, hp, rfl⟩ := List.mem_map.1 hm
    obtain ⟨j, hj⟩ := List.getElem?_of_mem hp
    have h4 : (pairs es)[j]? = some (ek p.1, ev p.2) := by rw [h.list, List.getElem?_map, hj]; rfl
    rw [pairs, List.getElem?_map] at h4
    obtain ⟨e, he, hee⟩ := Option.map_eq_some_iff.1 h4
    simp only [Prod.mk.injEq] at hee
    exact h2 e (List.mem_of_getElem? he) hee.1
  · obtain ⟨p, hp, hk, hv⟩ := h.entry h2
    have hpk : p.1 = k := L.inj (hk.symm.trans h3)
    obtain ⟨p1, v⟩ := p
    simp only at hpk
    subst hpk
    exact Or.inr ⟨j, e, v, by rw [h1, hv], h2, h3, hv, hp, get1_at E j _ v h.nodup hp⟩

/-- 'm[k]'. -/
theorem MapAt.run_lookup {t kt e : TypeId} (h : MapAt w b ek ev E) (L : KeyOk P kt ek) (ht : P.underlying t = some (.map kt e)) {z : ν} (hz : (zeroValue e).run P w = .ok (ev z) w) (k : κ) (ok : Bool) :
    (Instr.lookup t (.map (some b)) (ek k) ok).run P w = .ok (if ok then .tuple #[ev ((get1 E k).getD z), .bool (get1 E k).isSome] else ev ((get1 E k).getD z)) w := by
  obtain ⟨es, clock, h⟩ := h
  rcases h.find L k with ⟨h1, h2, _⟩ | ⟨j, e0, v, h1, _, _, _, _, h2⟩
  · cases ok <;> simp [Instr.lookup, run_underlying ht, MapKept.run_getObj_map h.at_, L.check w _ k, h1, hz, Result.andThen, h2]
  · cases ok <;> simp [Instr.lookup, run_underlying ht, MapKept.run_getObj_map h.at_, L.check w _ k, h1, Result.andThen, h2]

theorem MapIs.push {es : Array MapEntry} {clock : Nat} (h : MapIs w b ek ev E es clock) {k : κ} {v : ν} (hn : ∀ e ∈ es.toList, e.key ≠ ek k) (hg : get1 E k = none) :
    MapIs (setBlock w b (.map (es.push { key := ek k, val := ev v, born := clock }) (clock + 1))) b ek ev (ins k v E) (es.push { key := ek k, val := ev v, born := clock }) (clock + 1) := by
  refine ⟨heap_setBlock_same h.at_ _, ?_, stamped_push h.stamped hn⟩
  rw [ins_not_mem k v E ((get1_none_iff E k).1 hg), List.map_append, ← h.list]
  simp [pairs]

theorem MapIs.modify {es : Array MapEntry} {clock : Nat} (h : MapIs w b ek ev E es clock) {k : κ} {u v : ν} {j : Nat} {e0 : MapEntry} (hj : es.toList[j]? = some e0) (hk0 : e0.key = ek k) (hE : E[j]? = some (k, u))
    (f : MapEntry → MapEntry) (hf : f e0 = { e0 with key := ek k, val := ev v }) (hfb : ∀ e, (f e).born = e.born) :
    MapIs (setBlock w b (.map (es.modify j f) clock)) b ek ev (ins k v E) (es.modify j f) clock := by
  have hlist : (es.modify j f).toList = es.toList.set j { e0 with key := ek k, val := ev v } := by rw [Array.toList_modify, modify_eq_set _ _ _ _ hj, hf]
  refine ⟨heap_setBlock_same h.at_ _, ?_, stamped_modify h.stamped _ _ (fun e _ => hfb e) (fun e _ he => ?_)⟩
  · rw [ins_at k v E j u h.nodup hE, List.map_set, ← h.list]
    simp only [pairs, hlist, List.map_set]
  · have : es.toList[j]? = some e := by simpa using he
    rw [hj] at this
    cases this
    rw [hf]
    exact hk0.symm

/-- 'm[k] = v'. -/
theorem MapAt.run_update {t kt e : TypeId} (h : MapAt w b ek ev E) (L : KeyOk P kt ek) (ht : P.underlying t = some (.map kt e)) (k : κ) (v : ν) :
    ∃ w', (Instr.mapUpdate t (.map (some b)) (ek k) (ev v)).run P w = .ok () w' ∧ MapAt w' b ek ev (ins k v E) ∧ w.grownBy w' (some b) ∧ w'.heap.size = w.heap.size := by
  obtain ⟨es, clock, h⟩ := h
  rcases h.find L k with ⟨h1, h2, hn⟩ | ⟨j, e0, u, h1, hj, hk0, _, hE, _⟩
  · refine ⟨_, ?_, ⟨_, _, h.push (v := v) hn h2⟩, grownBy_setBlock ⟨_, h.at_⟩, by simp [setBlock]⟩
    simp [Instr.mapUpdate, run_underlying ht, MapKept.run_getObj_map h.at_, L.check w false k, h1, MapKept.run_setObj_map _ h.at_, Result.andThen, setBlock]
  · have hj' : es[j]? = some e0 := by simpa using hj
    refine ⟨_, ?_, ⟨_, _, h.modify (v := v) hj hk0 hE (fun e => { e with key := ek k, val := ev v }) rfl (fun _ => rfl)⟩, grownBy_setBlock ⟨_, h.at_⟩, by simp [setBlock]⟩
    simp [Instr.mapUpdate, run_underlying ht, MapKept.run_getObj_map h.at_, L.check w false k, h1, hj', hk0, L.stays w k, MapKept.run_setObj_map _ h.at_, Result.andThen, setBlock]

/-- The stamp of the entry at a key. -/
def StampAt (w : World) (b : Nat) (key : Value) (n : Nat) : Prop := ∃ (es : Array MapEntry) (clock j : Nat) (e : MapEntry), w.heap[b]? = some (.map es clock) ∧ es.toList[j]? = some e ∧ e.key = key ∧ e.born = n

theorem StampAt.of_block {key : Value} {n : Nat} (h : StampAt w b key n) (hb : w'.heap[b]? = w.heap[b]?) : StampAt w' b key n := by
  obtain ⟨es, clock, j, e, h1, h2⟩ := h
  exact ⟨es, clock, j, e, hb.trans h1, h2⟩

/-- 'm[k] op= v', its first part: the entry is there from now on. -/
theorem MapAt.run_entry {t kt e : TypeId} (h : MapAt w b ek ev E) (L : KeyOk P kt ek) (ht : P.underlying t = some (.map kt e)) {z : ν} (hz : (zeroValue e).run P w = .ok (ev z) w) (k : κ) :
    ∃ w' n, (Instr.mapEntry t (.map (some b)) (ek k)).run P w = .ok (.tuple #[ev ((get1 E k).getD z), .int .i64 (n : Nat)]) w' ∧ MapAt w' b ek ev (ins k ((get1 E k).getD z) E) ∧ StampAt w' b (ek k) n ∧ w.grownBy w' (some b) ∧ w'.heap.size = w.heap.size := by
  obtain ⟨es, clock, h⟩ := h
  rcases h.find L k with ⟨h1, h2, hn⟩ | ⟨j, e0, u, h1, hj, hk0, hv0, hE, h2⟩
  · refine ⟨_, clock, ?_, ⟨_, _, h.push (v := (get1 E k).getD z) hn h2⟩, ⟨_, _, es.size, { key := ek k, val := ev ((get1 E k).getD z), born := clock }, heap_setBlock_same h.at_ _, by simp, rfl, rfl⟩, grownBy_setBlock ⟨_, h.at_⟩, by simp [setBlock]⟩
    simp [Instr.mapEntry, run_underlying ht, MapKept.run_getObj_map h.at_, L.check w false k, h1, h2, hz, MapKept.run_setObj_map _ h.at_, Result.andThen, setBlock, goInt]
  · have hj' : es[j]? = some e0 := by simpa using hj
    have hv : (get1 E k).getD z = u := by rw [h2]; rfl
    refine ⟨_, e0.born, ?_, ⟨_, _, h.modify (v := (get1 E k).getD z) hj hk0 hE (fun e => { e with key := ek k }) (by rw [hv, ← hv0]) (fun _ => rfl)⟩, ⟨_, _, j, { e0 with key := ek k }, heap_setBlock_same h.at_ _, ?_, rfl, rfl⟩, grownBy_setBlock ⟨_, h.at_⟩, by simp [setBlock]⟩
    · simp [Instr.mapEntry, run_underlying ht, MapKept.run_getObj_map h.at_, L.check w false k, h1, h2, hj', hk0, L.stays w k, MapKept.run_setObj_map _ h.at_, Result.andThen, setBlock, goInt]
    · rw [Array.toList_modify, modify_eq_set _ _ _ _ hj]
      have hjl := (List.getElem?_eq_some_iff.1 hj).1
      rw [List.getElem?_set_self hjl]

/-- .. its second part. -/
theorem MapAt.run_entryStore (h : MapAt w b ek ev E) {t : TypeId} {k : κ} (hinj : ∀ {a b : κ}, ek a = ek b → a = b) {n : Nat} (hs : StampAt w b (ek k) n) (v : ν) :
    ∃ w', (Instr.entryStore t (.map (some b)) (.int .i64 (n : Nat)) (ev v)).run P w = .ok () w' ∧ MapAt w' b ek ev (ins k v E) ∧ w.grownBy w' (some b) ∧ w'.heap.size = w.heap.size := by
  obtain ⟨es, clock, h⟩ := h
  obtain ⟨es', clock', j, e0, hb, hj, hk0, rfl⟩ := hs
  rw [h.at_] at hb
  cases hb
  obtain ⟨⟨k', u⟩, hE, hk', _⟩ := h.entry hj
  obtain rfl : k = k' := hinj (hk0.symm.trans hk')
  have hj' : es[j]? = some e0 := by simpa using hj
  have hjl : j < es.size := (Array.getElem?_eq_some_iff.1 hj').1
  have hej : es[j] = e0 := (Array.getElem?_eq_some_iff.1 hj').2
  have hfi : es.findIdx? (fun e => (e.born : Int) == (e0.born : Int)) = some j := by
    rw [Array.findIdx?_eq_some_iff_getElem]
    refine ⟨hjl, by simp [hej], fun i hi => ?_⟩
    have hil : i < es.size := by omega
    simp only [beq_iff_eq]
    intro e
    have hnd := h.stamped.2.1
    have h1 : es[i].born = e0.born := by omega
    have h2 : (es.toList.map (·.born))[i]'(by simpa using hil) = (es.toList.map (·.born))[j]'(by simpa using hjl) := by
      simp [h1, hej]
    have := (List.getElem_inj hnd).1 h2
    omega
  refine ⟨_, ?_, ⟨_, _, h.modify (v := v) hj hk0 hE (fun e => { e with val := ev v }) (by rw [← hk0]) (fun _ => rfl)⟩, grownBy_setBlock ⟨_, h.at_⟩, by simp [setBlock]⟩
  simp [Instr.entryStore, MapKept.run_getObj_map h.at_, asInt, asIntOf, hfi, MapKept.run_setObj_map _ h.at_, Result.andThen, setBlock]

/-! ### ranging -/
theorem entry_eq_of_key' : ∀ {l : List MapEntry}, l.Pairwise (fun x y => x.key ≠ y.key) → ∀ {x y : MapEntry}, x ∈ l → y ∈ l → x.key = y.key → x = y
  | [], _, _, _, hx, _, _ => by simp at hx
  | a :: r, hp, x, y, hx, hy, h => by
    obtain ⟨h1, h2⟩ := List.pairwise_cons.1 hp
    rcases List.mem_cons.1 hx with ex | hx'
    · rcases List.mem_cons.1 hy with ey | hy'
      · rw [ex, ey]
      · exact absurd (ex ▸ h) (h1 y hy')
    · rcases List.mem_cons.1 hy with ey | hy'
      · exact absurd (ey ▸ h).symm (h1 x hx')
      · exact entry_eq_of_key' h2 hx' hy' h

/-- 'for .. range m' under way: block b holds the map, block r the iterator; the keys S have come. -/
def RangeAt (w : World) (b r : Nat) (ek : κ → Value) (ev : ν → Value) (E : List (κ × ν)) (S : List κ) : Prop :=
  ∃ es clock since seen c0, MapIs w b ek ev E es clock ∧ w.heap[r]? = some (.mapIter (some b) since seen c0) ∧ (∀ x ∈ es.toList, x.born < since) ∧ since ≤ c0 ∧ since ≤ clock ∧
    (∀ x ∈ es.toList, ∀ k, x.key = ek k → (k ∈ S ↔ seen.contains x.born = true)) ∧ S.Nodup ∧ (∀ k ∈ S, k ∈ keys E)

omit [DecidableEq κ] in
theorem RangeAt.map {r : Nat} {S : List κ} (h : RangeAt w b r ek ev E S) : MapAt w b ek ev E := by
  obtain ⟨es, clock, _, _, _, h, _⟩ := h
  exact ⟨es, clock, h⟩
omit [DecidableEq κ] in
theorem RangeAt.ne {r : Nat} {S : List κ} (h : RangeAt w b r ek ev E S) : r ≠ b := by
  obtain ⟨es, clock, since, seen, c0, h, hr, _⟩ := h
  intro e
  rw [e, h.at_] at hr
  cases hr
omit [DecidableEq κ] in
theorem RangeAt.lt {r : Nat} {S : List κ} (h : RangeAt w b r ek ev E S) : r < w.heap.size := by
  obtain ⟨es, clock, since, seen, c0, h, hr, _⟩ := h
  exact (Array.getElem?_eq_some_iff.1 hr).1
omit [DecidableEq κ] in
theorem RangeAt.of_block {r : Nat} {S : List κ} (h : RangeAt w b r ek ev E S) (hb : w'.heap[b]? = w.heap[b]?) (hr' : w'.heap[r]? = w.heap[r]?) : RangeAt w' b r ek ev E S := by
  obtain ⟨es, clock, since, seen, c0, h, hr, rest⟩ := h
  exact ⟨es, clock, since, seen, c0, ⟨hb.trans h.at_, h.list, h.stamped⟩, hr'.trans hr, rest⟩
omit [DecidableEq κ] in
theorem RangeAt.kept {r : Nat} {S : List κ} {row : Option Nat} (h : RangeAt w b r ek ev E S) (hg : w.grownBy w' row) (hb : some b ≠ row) (hr : some r ≠ row) : RangeAt w' b r ek ev E S :=
  h.of_block (hg.block b h.map.lt hb) (hg.block r h.lt hr)
omit [DecidableEq κ] in
theorem RangeAt.alloc {r : Nat} {S : List κ} (h : RangeAt w b r ek ev E S) (o : Obj) : RangeAt (w.alloc o) b r ek ev E S := h.kept (World.grownBy_alloc w o none) (by simp) (by simp)

omit [DecidableEq κ] in
theorem MapAt.run_range {t k e : TypeId} (h : MapAt w b ek ev E) (ht : P.underlying t = some (.map k e)) :
    ∃ w', (Instr.range t (.map (some b))).run P w = .ok (.pointer (some ⟨w.heap.size, 0, none⟩)) w' ∧ RangeAt w' b w.heap.size ek ev E [] ∧ w.grownBy w' none ∧ w'.heap.size = w.heap.size + 1 := by
  have hlt := h.lt
  obtain ⟨es, clock, h⟩ := h
  refine ⟨_, run_range_map w t k e b es clock ht h.at_, ⟨es, clock, clock, #[], clock, ⟨((MapKept.heap_alloc w _).2 b hlt).trans h.at_, h.list, h.stamped⟩, (MapKept.heap_alloc w _).1, h.stamped.1, Nat.le_refl _, Nat.le_refl _, fun _ _ _ _ => by simp, by simp, by simp⟩, World.grownBy_alloc w _ none, by simp⟩

omit [DecidableEq κ] in
/-- The step. -/
theorem RangeAt.run_next {t : TypeId} {r : Nat} {S : List κ} (h : RangeAt w b r ek ev E S) (L : KeyOk P t ek) (ty : TypeId) :
    ((∀ k ∈ keys E, k ∈ S) ∧ (Instr.next (.pointer (some ⟨r, 0, none⟩)) false ty).run P w = .ok (.tuple #[.bool false]) w) ∨
    ∃ k v w', (k, v) ∈ E ∧ k ∉ S ∧ (Instr.next (.pointer (some ⟨r, 0, none⟩)) false ty).run P w = .ok (.tuple #[.bool true, ek k, ev v]) w' ∧
      RangeAt w' b r ek ev E (k :: S) ∧ w.grownBy w' (some r) ∧ w'.heap.size = w.heap.size ∧ (Instr.entry (.pointer (some ⟨r, 0, none⟩))).run P w' = .ok (.tuple #[ek k, ev v]) w' := by
  have hne := h.ne
  obtain ⟨es, clock, since, seen, c0, h, hr, hold, hsc, hsk, hS, hSn, hSk⟩ := h
  rcases run_next_at (P := P) w ty r b since c0 seen es clock hr h.at_ hold hsc with ⟨h0, hrun⟩ | ⟨e, he, w1, hal, hrun⟩
  · refine Or.inl ⟨fun k hk => ?_, hrun⟩
    obtain ⟨p, hp, rfl⟩ := List.mem_map.1 hk
    obtain ⟨j, hj⟩ := List.getElem?_of_mem hp
    have h4 : (pairs es)[j]? = some (ek p.1, ev p.2) := by rw [h.list, List.getElem?_map, hj]; rfl
    rw [pairs, List.getElem?_map] at h4
    obtain ⟨x, hx, hxx⟩ := Option.map_eq_some_iff.1 h4
    simp only [Prod.mk.injEq] at hxx
    have hxm := List.mem_of_getElem? hx
    have := all_seen es seen h0 x hxm
    exact (hS x hxm p.1 hxx.1).2 (by simpa using this)
  · obtain ⟨hem, hes⟩ := mem_left he
    obtain ⟨⟨k, v⟩, hp, hk, hv⟩ := h.entry_mem hem
    simp only at hk hv
    have hr1 : w1.heap[r]? = some (.mapIter (some b) since seen c0) := by rcases hal with rfl | rfl <;> exact hr
    have hb1 : w1.heap[b]? = some (.map es clock) := by rcases hal with rfl | rfl <;> exact h.at_
    have hset := MapKept.heap_set (o' := .mapIter (some b) since (seen.push e.born) clock) hr1
    have hb' : (setBlock w1 r (.mapIter (some b) since (seen.push e.born) clock)).heap[b]? = some (.map es clock) := (hset.2 b (fun e1 => hne e1.symm)).trans hb1
    have hnS : k ∉ S := fun hm => by
      have := (hS e hem k hk).1 hm
      rw [this] at hes
      cases hes
    refine Or.inr ⟨k, v, _, hp, hnS, by rw [hrun, hk, hv], ⟨es, clock, since, seen.push e.born, clock, ⟨hb', h.list, h.stamped⟩, hset.1, hold, hsk, hsk, fun x hx k' hk' => ?_, List.nodup_cons.2 ⟨hnS, hSn⟩, fun k' hk' => ?_⟩, ?_, ?_,
      by rw [← hk, ← hv]; exact run_entry_at _ r b since seen es clock e hset.1 hb' hem ((stamped_iff es clock).1 h.stamped).2.1⟩
    · rw [contains_push, List.mem_cons]
      by_cases hxe : x.key = e.key
      · have : x = e := entry_eq_of_key' ((stamped_iff es clock).1 h.stamped).2.2 hx hem hxe
        subst this
        have hkk : k' = k := L.inj (hk'.symm.trans hk)
        simp [hkk]
      · have hbne : (x.born == e.born) = false := by
          rw [beq_eq_false_iff_ne]
          exact fun e1 => hxe (congrArg MapEntry.key (born_inj ((stamped_iff es clock).1 h.stamped).2.1 hx hem e1))
        have hkne : k' ≠ k := fun e1 => hxe (by rw [hk', hk, e1])
        simp only [hbne, Bool.or_false]
        rw [← hS x hx k' hk']
        exact ⟨fun h => h.resolve_left hkne, fun h => .inr h⟩
    · rcases List.mem_cons.1 hk' with rfl | hk'
      · exact List.mem_map.2 ⟨_, hp, rfl⟩
      · exact hSk k' hk'
    · rcases hal with rfl | rfl <;> exact ⟨rfl, rfl, rfl, by simp [setBlock], fun i _ hi => hset.2 i (fun e1 => hi (by rw [e1]))⟩
    · rcases hal with rfl | rfl <;> simp [setBlock]
end
end Go.Kq
