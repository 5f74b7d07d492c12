/-
  Maps whose keys are strings, as lists of pairs: made, looked up, written, ranged over.
-/
import Derived.Test.YtcncgkkilgmphaaSt
import Derived.Maps.RangeRun
set_option linter.unusedVariables false
set_option linter.unusedSimpArgs false
namespace Go.Proofs.Ytcncgkkilgmphaa
open Go Go.RowKit

/-! ### 1. lists of pairs -/
instance : LawfulBEq ByteArray where
  eq_of_beq h := (MapKept.bytes_beq _ _).1 h
  rfl := (MapKept.bytes_beq _ _).2 rfl
abbrev KV := List (ByteArray × Value)
def lkv (l : KV) (k : ByteArray) : Option Value := (l.find? fun p => p.1 == k).map (·.2)
def keysOf (l : KV) : List ByteArray := l.map (·.1)
def ins (l : KV) (k : ByteArray) (v : Value) : KV := if k ∈ keysOf l then l.map (fun p => if p.1 = k then (p.1, v) else p) else l ++ [(k, v)]
theorem lkv_none {l : KV} {k : ByteArray} : lkv l k = none ↔ k ∉ keysOf l := by
  unfold lkv keysOf
  simp only [Option.map_eq_none_iff, List.find?_eq_none, List.mem_map, not_exists, not_and]
  constructor
  · intro h p hp e
    exact h p hp (by rw [e]; simp)
  · intro h p hp e
    exact h p hp (by simpa using e)
theorem lkv_some {l : KV} {k : ByteArray} {v : Value} (hn : (keysOf l).Nodup) : lkv l k = some v ↔ (k, v) ∈ l := by
  induction l with
  | nil => simp [lkv]
  | cons p l ih =>
    obtain ⟨a, u⟩ := p
    simp only [keysOf, List.map_cons, List.nodup_cons] at hn
    by_cases e : a = k
    · subst e
      have hm : ∀ u', (a, u') ∉ l := fun u' hm => hn.1 (List.mem_map.2 ⟨_, hm, rfl⟩)
      simp [lkv, hm, eq_comm]
    · have : lkv ((a, u) :: l) k = lkv l k := by simp [lkv, e]
      rw [this, ih hn.2]
      simp [Ne.symm e]
theorem keysOf_ins (l : KV) (k : ByteArray) (v : Value) : keysOf (ins l k v) = if k ∈ keysOf l then keysOf l else keysOf l ++ [k] := by
  unfold ins
  split
  · unfold keysOf
    rw [List.map_map]
    apply List.map_congr_left
    intro p _
    simp only [Function.comp]
    split <;> rfl
  · simp [keysOf]
theorem mem_keysOf_ins {l : KV} {k k' : ByteArray} {v : Value} : k' ∈ keysOf (ins l k v) ↔ k' = k ∨ k' ∈ keysOf l := by
  rw [keysOf_ins]
  split
  · rename_i h
    constructor
    · exact .inr
    · rintro (rfl | h')
      · exact h
      · exact h'
  · simp [or_comm]
theorem ins_new {l : KV} {k : ByteArray} {v : Value} (h : k ∉ keysOf l) : ins l k v = l ++ [(k, v)] := by simp [ins, h]

/-! ### 2. a block that is a map -/
def entsOf (es : Array MapEntry) : List (Value × Value) := es.toList.map fun e => (e.key, e.val)
def encKV (l : KV) : List (Value × Value) := l.map fun p => (.string p.1, p.2)
/-- Block b is a map; its entries, in the order in which they came, are l. -/
def MapAt (w : World) (b : Nat) (l : KV) : Prop :=
  ∃ es clock, w.heap[b]? = some (.map es clock) ∧ MapKept.Stamped es clock ∧ entsOf es = encKV l
theorem MapAt.ext {w w' : World} {b : Nat} {l : KV} (h : MapAt w b l) (hE : Ext w w') : MapAt w' b l := by
  obtain ⟨es, c, h1, h2, h3⟩ := h
  exact ⟨es, c, hE.block h1, h2, h3⟩
theorem MapAt.lt {w : World} {b : Nat} {l : KV} (h : MapAt w b l) : b < w.heap.size := by
  obtain ⟨es, c, h1, _⟩ := h
  exact (Array.getElem?_eq_some_iff.1 h1).1
theorem MapAt.mod {w w' : World} {b : Nat} {l : KV} {row : Option Nat} (h : MapAt w b l) (hm : Mod row w w') (hne : some b ≠ row) : MapAt w' b l := by
  have := h.lt
  obtain ⟨es, c, h1, h2, h3⟩ := h
  exact ⟨es, c, (hm.block b this hne).trans h1, h2, h3⟩
theorem MapAt.nocell {w : World} {b : Nat} {l : KV} (h : MapAt w b l) {a : Addr} {v : Value} (hc : w.cell? a = some v) : a.block ≠ b := by
  intro e
  obtain ⟨es, c, h1, _⟩ := h
  subst e
  simp [World.cell?, h1] at hc
theorem ents_keys {es : Array MapEntry} {l : KV} (h : entsOf es = encKV l) : ∀ x ∈ es.toList, ∃ k, x.key = .string k ∧ (k, x.val) ∈ l := by
  intro x hx
  have : (x.key, x.val) ∈ entsOf es := List.mem_map.2 ⟨x, hx, rfl⟩
  rw [h] at this
  obtain ⟨p, hp, he⟩ := List.mem_map.1 this
  simp only [Prod.mk.injEq] at he
  exact ⟨p.1, he.1.symm, by rw [← he.2]; exact hp⟩
theorem MapAt.nodup {w : World} {b : Nat} {l : KV} (h : MapAt w b l) : (keysOf l).Nodup := by
  obtain ⟨es, c, h1, h2, h3⟩ := h
  have : (encKV l).map (·.1) = es.toList.map (·.key) := by rw [← h3]; simp [entsOf]
  have hn := h2.2.2
  rw [← this] at hn
  have e : (encKV l).map (·.1) = (keysOf l).map Value.string := by simp [encKV, keysOf]
  rw [e, List.Nodup, List.pairwise_map] at hn
  exact hn.imp fun h e => h (by rw [e])
theorem getKV {es : Array MapEntry} {l : KV} (h : entsOf es = encKV l) (j : Nat) {e : MapEntry} (he : es.toList[j]? = some e) : ∃ k, e.key = .string k ∧ l[j]? = some (k, e.val) := by
  have : (entsOf es)[j]? = some (e.key, e.val) := by simp [entsOf, he]
  rw [h] at this
  simp only [encKV, List.getElem?_map, Option.map_eq_some_iff] at this
  obtain ⟨p, hp, hpe⟩ := this
  simp only [Prod.mk.injEq] at hpe
  exact ⟨p.1, hpe.1.symm, by rw [hp, ← hpe.2]⟩
theorem keyString {kt : TypeId} {P : Program} (hk : P.underlying kt = some .string) (k : ByteArray) : MapKept.IsKey .string (.string k) := trivial
section
variable {P : Program} {w : World} {b : Nat} {l : KV} {t kt et : TypeId}
theorem find_ents {es : Array MapEntry} {l : KV} (h3 : entsOf es = encKV l) (hn : (keysOf l).Nodup) (k : ByteArray) :
    (Instr.findNow .string (.string k) es.toList 0 = some none ∧ k ∉ keysOf l ∧ ∀ x ∈ es.toList, x.key ≠ .string k) ∨
    ∃ j e, Instr.findNow .string (.string k) es.toList 0 = some (some (j, e.val)) ∧ es.toList[j]? = some e ∧ e.key = .string k ∧ lkv l k = some e.val ∧ k ∈ keysOf l ∧ l[j]? = some (k, e.val) := by
  have hks : ∀ x ∈ es.toList, MapKept.IsKey .string x.key := fun x hx => by obtain ⟨k, hk, _⟩ := ents_keys h3 x hx; rw [hk]; trivial
  rcases MapKept.findNow_spec (d := .string) (k := .string k) trivial es.toList 0 hks with ⟨h1, h2⟩ | ⟨j, e, h1, h2, h4⟩
  · refine .inl ⟨h1, fun hm => ?_, h2⟩
    obtain ⟨p, hp, rfl⟩ := List.mem_map.1 hm
    have : (Value.string p.1, p.2) ∈ entsOf es := by rw [h3]; exact List.mem_map.2 ⟨p, hp, rfl⟩
    obtain ⟨x, hx, he⟩ := List.mem_map.1 this
    simp only [Prod.mk.injEq] at he
    exact h2 x hx he.1
  · obtain ⟨k', hk', hg⟩ := getKV h3 j h2
    rw [h4] at hk'
    cases hk'
    have hm : (k, e.val) ∈ l := List.mem_of_getElem? hg
    exact .inr ⟨j, e, by simpa using h1, h2, h4, (lkv_some hn).2 hm, List.mem_map.2 ⟨_, hm, rfl⟩, hg⟩
theorem MapAt.lookup (h : MapAt w b l) (ht : P.underlying t = some (.map kt et)) (hk : P.underlying kt = some .string) {z : Value} (hz : (zeroValue et).run P w = .ok z w) (k : ByteArray) :
    (Instr.lookup t (.map (some b)) (.string k) false).run P w = .ok ((lkv l k).getD z) w := by
  have hn := h.nodup
  obtain ⟨es, c, h1, h2, h3⟩ := h
  rcases find_ents h3 hn k with ⟨hf, hm, _⟩ | ⟨j, e, hf, he, hke, hl, hm, _⟩
  · rw [lkv_none.2 hm]
    simp [Instr.lookup, run_underlying ht, MapKept.run_getObj_map h1, MapKept.run_checkKey hk (keyString hk k), MapKept.run_findKey hk hf, hz, Result.andThen]
  · rw [hl]
    simp [Instr.lookup, run_underlying ht, MapKept.run_getObj_map h1, MapKept.run_checkKey hk (keyString hk k), MapKept.run_findKey hk hf, hz, Result.andThen]
theorem MapAt.lookupOk (h : MapAt w b l) (ht : P.underlying t = some (.map kt et)) (hk : P.underlying kt = some .string) {z : Value} (hz : (zeroValue et).run P w = .ok z w) (k : ByteArray) :
    (Instr.lookup t (.map (some b)) (.string k) true).run P w = .ok (.tuple #[(lkv l k).getD z, .bool (decide (k ∈ keysOf l))]) w := by
  have hn := h.nodup
  obtain ⟨es, c, h1, h2, h3⟩ := h
  rcases find_ents h3 hn k with ⟨hf, hm, _⟩ | ⟨j, e, hf, he, hke, hl, hm, _⟩
  · rw [lkv_none.2 hm]
    simp [Instr.lookup, run_underlying ht, MapKept.run_getObj_map h1, MapKept.run_checkKey hk (keyString hk k), MapKept.run_findKey hk hf, hz, Result.andThen, hm]
  · rw [hl]
    simp [Instr.lookup, run_underlying ht, MapKept.run_getObj_map h1, MapKept.run_checkKey hk (keyString hk k), MapKept.run_findKey hk hf, hz, Result.andThen, hm]
/-- a nil map has nothing -/
theorem run_lookupOk_nil (ht : P.underlying t = some (.map kt et)) (hk : P.underlying kt = some .string) {z : Value} (hz : (zeroValue et).run P w = .ok z w) (k : ByteArray) :
    (Instr.lookup t (.map none) (.string k) true).run P w = .ok (.tuple #[z, .bool false]) w := by
  have hf : Instr.findNow .string (.string k) [] 0 = some none := rfl
  simp [Instr.lookup, run_underlying ht, MapKept.run_checkKey hk (keyString hk k), MapKept.run_findKey hk hf, hz, Result.andThen]
theorem MapAt.len (h : MapAt w b l) (ht : P.underlying t = some (.map kt et)) (ty : TypeId) : (Builtin.len_ #[t] ty #[.map (some b)]).run P w = .ok (goInt l.length) w := by
  obtain ⟨es, c, h1, h2, h3⟩ := h
  have : es.size = l.length := by have := congrArg List.length h3; simpa [entsOf, encKV] using this
  simp [Builtin.len_, run_underlying ht, MapKept.run_getObj_map h1, Result.andThen, this]
theorem map_made (w : World) : MapAt (w.alloc (.map #[] 0)) w.heap.size [] := ⟨#[], 0, (MapKept.heap_alloc w _).1, MapKept.stamped_empty 0, rfl⟩
theorem run_makeMap' (t : TypeId) (w : World) : (Instr.makeMap t none).run P w = .ok (.map (some w.heap.size)) (w.alloc (.map #[] 0)) := by
  simp [Instr.makeMap, Result.andThen]
theorem mod_setBlock {w : World} {b : Nat} {o : Obj} (hb : w.heap[b]? = some o) (o' : Obj) : Mod (some b) w { w with heap := w.heap.setIfInBounds b o' } :=
  ⟨rfl, rfl, rfl, by simp, fun i _ hi => (MapKept.heap_set hb).2 i (fun e => hi (by rw [e]))⟩
theorem MapAt.update (h : MapAt w b l) (ht : P.underlying t = some (.map kt et)) (hk : P.underlying kt = some .string) (k : ByteArray) (v : Value) :
    ∃ w', (Instr.mapUpdate t (.map (some b)) (.string k) v).run P w = .ok () w' ∧ MapAt w' b (ins l k v) ∧ Mod (some b) w w' ∧ w'.heap.size = w.heap.size := by
  have hn := h.nodup
  obtain ⟨es, c, h1, h2, h3⟩ := h
  rcases find_ents h3 hn k with ⟨hf, hm, hx⟩ | ⟨j, e, hf, he, hke, hl, hm, hg⟩
  · refine ⟨{ w with heap := w.heap.setIfInBounds b (.map (es.push { key := .string k, val := v, born := c }) (c + 1)) }, ?_, ⟨_, _, (MapKept.heap_set h1).1, MapKept.stamped_push h2 hx, ?_⟩, mod_setBlock h1 _, by simp⟩
    · simp [Instr.mapUpdate, run_underlying ht, MapKept.run_getObj_map h1, MapKept.run_checkKey hk (keyString hk k), MapKept.run_findKey hk hf, MapKept.run_setObj_map _ h1, Result.andThen]
    · rw [ins_new hm]
      simp only [entsOf, encKV] at h3 ⊢
      simp [h3]
  · have hj : es[j]? = some e := by simpa using he
    have hkey : ∀ e', es[j]? = some e' → ({ e' with key := .string k, val := v } : MapEntry).key = e'.key := fun e' he' => by rw [hj] at he'; cases he'; exact hke.symm
    refine ⟨{ w with heap := w.heap.setIfInBounds b (.map (es.modify j fun e => { e with key := .string k, val := v }) c) }, ?_, ⟨_, _, (MapKept.heap_set h1).1, MapKept.stamped_modify h2 _ _ (fun _ _ => rfl) (fun e' _ he' => hkey e' he'), ?_⟩, mod_setBlock h1 _, by simp⟩
    · simp [Instr.mapUpdate, run_underlying ht, MapKept.run_getObj_map h1, MapKept.run_checkKey hk (keyString hk k), MapKept.run_findKey hk hf, hj, hke, MapKept.run_keyThatStays (keyString hk k), MapKept.run_setObj_map _ h1, Result.andThen]
    · unfold ins
      rw [if_pos hm]
      apply List.ext_getElem?
      intro i
      have hi : (entsOf es)[i]? = (encKV l)[i]? := by rw [h3]
      simp only [entsOf, encKV, List.getElem?_map, Array.getElem?_toList, Array.getElem?_modify, List.map_map] at hi ⊢
      by_cases hij : j = i
      · subst hij
        simp [hj, hg]
      · simp only [hij, if_false]
        rw [hi]
        cases hli : l[i]? with
        | none => simp
        | some p =>
          have hne : p.1 ≠ k := by
            intro e'
            have h5 : (keysOf l)[i]? = some k := by simp [keysOf, hli, e']
            have h6 : (keysOf l)[j]? = some k := by simp [keysOf, hg]
            exact hij ((List.getElem?_inj (List.getElem?_eq_some_iff.1 h6).1 hn).1 (h6.trans h5.symm))
          simp [hne]

/-! ### 3. ranging -/
/-- Block r is an iterator over map b; rest is to come. -/
def Iter (w : World) (r b : Nat) (l rest : KV) : Prop :=
  r ≠ b ∧ ∃ es clock since seen c0, w.heap[b]? = some (.map es clock) ∧ MapKept.Stamped es clock ∧ entsOf es = encKV l ∧ w.heap[r]? = some (.mapIter (some b) since seen c0) ∧
    (∀ x ∈ es.toList, x.born < since) ∧ since ≤ c0 ∧ since ≤ clock ∧ entsOf (leftOf es seen) = encKV rest
theorem Iter.map {r : Nat} {rest : KV} (h : Iter w r b l rest) : MapAt w b l := by
  obtain ⟨_, es, c, s, seen, c0, h1, h2, h3, _⟩ := h
  exact ⟨es, c, h1, h2, h3⟩
theorem Iter.ne {r : Nat} {rest : KV} (h : Iter w r b l rest) : r ≠ b := h.1
theorem Iter.lt {r : Nat} {rest : KV} (h : Iter w r b l rest) : r < w.heap.size := by
  obtain ⟨_, es, c, s, seen, c0, h1, h2, h3, h4, _⟩ := h
  exact (Array.getElem?_eq_some_iff.1 h4).1
theorem Iter.mod {r : Nat} {rest : KV} {w' : World} {row : Option Nat} (h : Iter w r b l rest) (hm : Mod row w w') (h1 : some r ≠ row) (h2 : some b ≠ row) : Iter w' r b l rest := by
  have hl := h.lt
  have hb := h.map.lt
  obtain ⟨hne, es, c, s, seen, c0, g1, g2, g3, g4, g5⟩ := h
  exact ⟨hne, es, c, s, seen, c0, (hm.block b hb h2).trans g1, g2, g3, (hm.block r hl h1).trans g4, g5⟩
theorem Iter.ext {r : Nat} {rest : KV} {w' : World} (h : Iter w r b l rest) (hE : Ext w w') : Iter w' r b l rest := by
  obtain ⟨hne, es, c, s, seen, c0, g1, g2, g3, g4, g5⟩ := h
  exact ⟨hne, es, c, s, seen, c0, hE.block g1, g2, g3, hE.block g4, g5⟩
theorem MapAt.range (h : MapAt w b l) (ht : P.underlying t = some (.map kt et)) :
    ∃ o, (Instr.range t (.map (some b))).run P w = .ok (.pointer (some ⟨w.heap.size, 0, none⟩)) (w.alloc o) ∧ Iter (w.alloc o) w.heap.size b l l := by
  have hlt := h.lt
  obtain ⟨es, c, h1, h2, h3⟩ := h
  refine ⟨.mapIter (some b) c #[] c, ?_, by omega, es, c, c, #[], c, ?_, h2, h3, (MapKept.heap_alloc w _).1, h2.1, Nat.le_refl _, Nat.le_refl _, ?_⟩
  · simp [Instr.range, run_underlying ht, MapKept.run_getObj_map h1, Result.andThen]
  · rw [(MapKept.heap_alloc w _).2 b hlt]; exact h1
  · have : leftOf es #[] = es := by unfold leftOf; simp
    rw [this]; exact h3
theorem left_push (es : Array MapEntry) (seen : Array Nat) (n : Nat) : (leftOf es (seen.push n)).toList = (leftOf es seen).toList.filter fun e => !(e.born == n) := by
  unfold leftOf
  simp only [Array.toList_filter, List.filter_filter]
  apply List.filter_congr
  intro x _
  simp only [Array.contains_push]
  cases seen.contains x.born <;> cases (x.born == n) <;> rfl
theorem filter_born {L : List MapEntry} (hn : (L.map (·.born)).Nodup) {e : MapEntry} (he : e ∈ L) : L.Perm (e :: L.filter fun x => !(x.born == e.born)) := by
  induction L with
  | nil => cases he
  | cons a L ih =>
    simp only [List.map_cons, List.nodup_cons] at hn
    rcases List.mem_cons.1 he with rfl | he
    · have : L.filter (fun x => !(x.born == e.born)) = L := by
        refine List.filter_eq_self.2 fun x hx => ?_
        have : x.born ≠ e.born := fun h => hn.1 (List.mem_map.2 ⟨x, hx, h⟩)
        simp [this]
      simp [this]
    · have : a.born ≠ e.born := fun h => hn.1 (List.mem_map.2 ⟨e, he, h.symm⟩)
      simp only [List.filter_cons, beq_iff_eq, this, Bool.not_eq_true', beq_eq_false_iff_ne, ne_eq, not_false_eq_true, if_true]
      exact ((ih hn.2 he).cons a).trans (List.Perm.swap _ _ _)
/-- One step: nothing is left, or some pair comes, whichever. -/
theorem Iter.next {r : Nat} {rest : KV} (h : Iter w r b l rest) (ty : TypeId) :
    (rest = [] ∧ (Instr.next (.pointer (some ⟨r, 0, none⟩)) false ty).run P w = .ok (.tuple #[.bool false]) w) ∨
    ∃ k v rest' w', rest.Perm ((k, v) :: rest') ∧ (k, v) ∈ l ∧ (Instr.next (.pointer (some ⟨r, 0, none⟩)) false ty).run P w = .ok (.tuple #[.bool true, .string k, v]) w' ∧ Iter w' r b l rest' ∧ Mod (some r) w w' ∧ w'.heap.size = w.heap.size ∧
      (Instr.entry (.pointer (some ⟨r, 0, none⟩))).run P w' = .ok (.tuple #[.string k, v]) w' := by
  obtain ⟨hne, es, c, since, seen, c0, g1, g2, g3, g4, g5, g6, g6', g7⟩ := h
  rcases run_next_at (P := P) w ty r b since c0 seen es c g4 g1 g5 g6 with ⟨h0, hrun⟩ | ⟨e, he, w1, hal, hrun⟩
  · refine .inl ⟨?_, hrun⟩
    have : leftOf es seen = #[] := Array.eq_empty_of_size_eq_zero h0
    rw [this] at g7
    cases rest with
    | nil => rfl
    | cons p l => simp [entsOf, encKV] at g7
  · have hem : e ∈ es.toList := by
      unfold leftOf at he
      rw [Array.toList_filter] at he
      exact (List.mem_filter.1 he).1
    obtain ⟨k, hk, hkl⟩ := ents_keys g3 e hem
    obtain ⟨k', hk', hkr⟩ := ents_keys g7 e he
    rw [hk] at hk'
    cases hk'
    have g4' : w1.heap[r]? = some (.mapIter (some b) since seen c0) := by rcases hal with rfl | rfl <;> exact g4
    have g1' : w1.heap[b]? = some (.map es c) := by rcases hal with rfl | rfl <;> exact g1
    have hset := MapKept.heap_set (o' := .mapIter (some b) since (seen.push e.born) c) g4'
    have hb' : (ChangeMaps.setBlock w1 r (.mapIter (some b) since (seen.push e.born) c)).heap[b]? = some (.map es c) := (hset.2 b (fun e1 => hne e1.symm)).trans g1'
    have hsub : (leftOf es seen).toList.Sublist es.toList := by unfold leftOf; rw [Array.toList_filter]; exact List.filter_sublist
    have hnl : ((leftOf es seen).toList.map (·.born)).Nodup := (hsub.map _).nodup g2.2.1
    have hperm := filter_born hnl he
    refine .inr ⟨k, e.val, ((leftOf es (seen.push e.born)).toList.map fun x => (match x.key with | .string s => s | _ => ByteArray.empty, x.val)), _, ?_, hkl, by rw [← hk]; exact hrun,
      ⟨hne, es, c, since, seen.push e.born, c, hb', g2, g3, hset.1, g5, g6', g6', ?_⟩, ?_, ?_, ?_⟩
    · have e1 : rest = (leftOf es seen).toList.map fun x => (match x.key with | .string s => s | _ => ByteArray.empty, x.val) := by
        have h2 := congrArg (List.map fun p : Value × Value => (match p.1 with | .string s => s | _ => ByteArray.empty, p.2)) g7
        simp only [entsOf, encKV, List.map_map] at h2
        have e2 : rest.map ((fun p : Value × Value => ((match p.1 with | .string s => s | _ => ByteArray.empty, p.2) : ByteArray × Value)) ∘ fun p => (Value.string p.1, p.2)) = rest := by
          conv => rhs; rw [← List.map_id rest]
          exact List.map_congr_left fun p _ => rfl
        rw [e2] at h2
        exact h2.symm
      rw [e1, left_push]
      have := hperm.map fun x : MapEntry => ((match x.key with | .string s => s | _ => ByteArray.empty, x.val) : ByteArray × Value)
      simpa [hk] using this
    · unfold entsOf encKV
      rw [List.map_map]
      refine List.map_congr_left fun x hx => ?_
      have hxe : x ∈ es.toList := by
        unfold leftOf at hx
        rw [Array.toList_filter] at hx
        exact (List.mem_filter.1 hx).1
      obtain ⟨kx, hkx, _⟩ := ents_keys g3 x hxe
      simp [hkx]
    · rcases hal with rfl | rfl <;> exact ⟨rfl, rfl, rfl, by simp [ChangeMaps.setBlock], fun i _ hi => hset.2 i (fun e1 => hi (by rw [e1]))⟩
    · rcases hal with rfl | rfl <;> simp [ChangeMaps.setBlock]
    · rw [← hk]
      exact run_entry_at _ r b since seen es c e hset.1 hb' hem g2.2.1
end
end Go.Proofs.Ytcncgkkilgmphaa
