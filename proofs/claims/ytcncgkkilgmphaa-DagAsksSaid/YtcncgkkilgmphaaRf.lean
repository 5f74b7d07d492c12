/-
  Plain law: the program's graph and the document's graph, of the same commits, answer alike.
-/
import Derived.Test.YtcncgkkilgmphaaRe
set_option linter.unusedVariables false
set_option linter.unusedSimpArgs false
namespace Go.Proofs.Ytcncgkkilgmphaa
open Go

theorem anc_split {G : List Cm} {ids : List ByteArray} {k : ByteArray} : Anc G ids k ↔ ∃ i ∈ ids, k = i ∨ Anc G (par G i) k := by
  constructor
  · intro h
    induction h with
    | base h => exact ⟨_, h, .inl rfl⟩
    | step _ hp ih =>
      obtain ⟨i, hi, h⟩ := ih
      refine ⟨i, hi, .inr ?_⟩
      rcases h with rfl | h
      · exact .base hp
      · exact .step h hp
  · rintro ⟨i, hi, rfl | h⟩
    · exact .base hi
    · induction h with
      | base hp => exact .step (.base hi) hp
      | step _ hp ih => exact .step ih hp
/-- what stands right above k on the way down from i -/
theorem anc_last {G : List Cm} {i k : ByteArray} (h : Anc G (par G i) k) : ∃ k', (k' = i ∨ Anc G (par G i) k') ∧ k ∈ par G k' := by
  cases h with
  | base hp => exact ⟨i, .inl rfl, hp⟩
  | step h hp => exact ⟨_, .inr h, hp⟩
theorem anc_down {G : List Cm} {q : ByteArray → Prop} (hq : ∀ k p, q k → p ∈ par G k → q p) {i k : ByteArray} (hi : q i) (h : Anc G (par G i) k) : q k := by
  induction h with
  | base hp => exact hq _ _ hi hp
  | step _ hp ih => exact hq _ _ ih hp
theorem near_bases {G : List Cm} {q : ByteArray → Prop} (hq : ∀ k p, q k → p ∈ par G k → q p) (k : ByteArray) : Near G q k ↔ q k ∧ ¬ ∃ i, q i ∧ Anc G (par G i) k := by
  unfold Near
  constructor
  · rintro ⟨h1, h2⟩
    refine ⟨h1, ?_⟩
    rintro ⟨i, hi, ha⟩
    obtain ⟨k', h3, h4⟩ := anc_last ha
    refine h2 ⟨k', ?_, h4⟩
    rcases h3 with rfl | h3
    · exact hi
    · exact anc_down hq hi h3
  · rintro ⟨h1, h2⟩
    exact ⟨h1, fun ⟨k', h3, h4⟩ => h2 ⟨k', h3, .base h4⟩⟩
theorem near_tops {G : List Cm} {ids : List ByteArray} (k : ByteArray) : Near G (Anc G ids) k ↔ k ∈ ids ∧ ¬ ∃ i ∈ ids, Anc G (par G i) k := by
  unfold Near
  constructor
  · rintro ⟨h1, h2⟩
    have hk : ∀ i ∈ ids, ¬ Anc G (par G i) k := fun i hi ha => by
      obtain ⟨k', h3, h4⟩ := anc_last ha
      exact h2 ⟨k', anc_split.2 ⟨i, hi, h3⟩, h4⟩
    refine ⟨?_, fun ⟨i, hi, ha⟩ => hk i hi ha⟩
    obtain ⟨i, hi, h⟩ := anc_split.1 h1
    rcases h with rfl | h
    · exact hi
    · exact absurd h (hk i hi)
  · rintro ⟨h1, h2⟩
    refine ⟨.base h1, fun ⟨k', h3, h4⟩ => ?_⟩
    obtain ⟨i, hi, h⟩ := anc_split.1 h3
    refine h2 ⟨i, hi, ?_⟩
    rcases h with rfl | h
    · exact .base h4
    · exact .step h h4
theorem same_set {p q : ByteArray → Prop} {b : Bool} {L L' : List ByteArray} (h : if b then SetOf p L else L = []) (h' : if b then SetOf q L' else L' = []) (he : ∀ k, p k ↔ q k) : L = L' := by
  cases b
  · simp at h h'
    rw [h, h']
  · simp only [if_true] at h h'
    exact h.unique h' he
theorem same_order {G : List Cm} {ids : List ByteArray} {b : Bool} {L L' : List ByteArray} (h : if b then ∃ L0, SetOf (Anc G ids) L0 ∧ Asc (later G) L ∧ Stab (later G) L0 L else L = []) (h' : if b then ∃ L0, SetOf (Anc G ids) L0 ∧ Asc (later G) L' ∧ Stab (later G) L0 L' else L' = []) : L = L' := by
  cases b
  · simp at h h'
    rw [h, h']
  · simp only [if_true] at h h'
    obtain ⟨L0, h1, h2, h3⟩ := h
    obtain ⟨L1, g1, g2, g3⟩ := h'
    have e := h1.unique g1 fun _ => Iff.rfl
    subst e
    exact asc_unique (O := later_wo G) h2 g2 (h3.symm.trans g3)
/-! ### what adding keeps -/
structure Good (G : List Cm) (K : Nat) : Prop where
  topo : Topo G
  small : ∀ c ∈ G, c.ps.length ≤ K
  stamps : Stamps G
theorem good_nil (K : Nat) : Good [] K := ⟨fun i c h => by simp at h, by simp, by intro c hc; cases hc⟩
theorem good_add {G : List Cm} {K : Nat} {id : ByteArray} {ps : List ByteArray} {st : Int} (h : Good G K) (hp : ps.length ≤ K) (hs : st ≤ 9223372036854775807) : Good (addG G id ps st).2 K := by
  unfold addG
  split
  · exact h
  split
  · exact h
  split
  · exact h
  split
  · exact h
  split
  · exact h
  rename_i h1 h2 h3 h4 h5
  have hk : known G ps = true := by simpa using h3
  refine ⟨fun i c hi p hpc => ?_, fun c hc => ?_, fun c hc => ?_⟩
  · by_cases hlt : i < G.length
    · simp only at hi
      rw [List.getElem?_append_left hlt] at hi
      obtain ⟨j, c', g1, g2, g3⟩ := h.topo i c hi p hpc
      refine ⟨j, c', g1, ?_, g3⟩
      simp only
      rw [List.getElem?_append_left (by omega)]
      exact g2
    · simp only at hi
      rw [List.getElem?_append_right (by omega)] at hi
      have hi0 : i - G.length = 0 := by
        have := lt_of_getE hi
        obtain ⟨g, _⟩ := this
        simp at g
        omega
      rw [hi0] at hi
      simp at hi
      subst hi
      simp only at hpc
      have hm := known_iff.1 hk p (mem_usort.1 hpc)
      obtain ⟨c', hc', e⟩ := List.mem_map.1 hm
      obtain ⟨j, hj, ej⟩ := List.getElem_of_mem hc'
      refine ⟨j, c', by omega, ?_, e⟩
      simp only
      rw [List.getElem?_append_left hj, List.getElem?_eq_getElem hj, ej]
  · rcases List.mem_append.1 hc with hc | hc
    · exact h.small c hc
    · rw [List.mem_singleton.1 hc]
      exact Nat.le_trans (usort_length_le ps) hp
  · rcases List.mem_append.1 hc with hc | hc
    · exact h.stamps c hc
    · rw [List.mem_singleton.1 hc]
      have : ¬ st ≤ -1 := fun hh => h4 ((top_le ps).2 (.inl hh))
      simp only
      omega
theorem addG_length (G : List Cm) (id : ByteArray) (ps : List ByteArray) (st : Int) : (addG G id ps st).2.length ≤ G.length + 1 := by
  unfold addG
  repeat' split
  all_goals simp
theorem Good.fits {G : List Cm} {K : Nat} (h : Good G K) : Fits G K := ⟨h.topo.closed, h.small⟩
end Go.Proofs.Ytcncgkkilgmphaa
