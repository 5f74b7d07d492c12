/-
  Contract: obj.read.
-/
import Derived.Test.YtcncgkkilgmphaaOj
set_option linter.unusedVariables false
set_option linter.unusedSimpArgs false
namespace Go.Proofs.Ytcncgkkilgmphaa
open Go Go.RowKit

/-! ### plain: what is read is not too long -/
theorem takeP_len (s : Src) (n : Nat) : (takeP s n).1.length ≤ s.1.length ∧ (takeP s n).1.length ≤ n ∧ (takeP s n).2.1.length ≤ s.1.length ∧ ((takeP s n).2.2 = false → (takeP s n).2.1.length + n ≤ s.1.length ∧ s.2 = false) := by
  unfold takeP
  split
  · simp
  · rename_i h
    simp only [not_or, Nat.not_lt] at h
    simp
    refine ⟨by omega, by omega, fun h2 => ⟨by omega, h2⟩⟩
/-- reading a number takes nothing back -/
def Down (num : Src → Nat × Src) : Prop := ∀ s : Src, (num s).2.1.length ≤ s.1.length ∧ ((num s).2.2 = false → s.2 = false)
theorem numP_down : Down numP := fun s => by
  unfold numP
  split
  · have := takeP_len s (getR s.1).2.1
    exact ⟨this.2.2.1, fun h => (this.2.2.2 h).2⟩
  · simp
theorem rnumP_down : Down rnumP := fun s => by
  unfold rnumP
  split
  · simp
  · rename_i h
    simp only [not_or] at h
    simp
theorem itemP_len {num : Src → Nat × Src} (hd : Down num) (s : Src) : (itemP num s).2.1.length ≤ s.1.length ∧ ((itemP num s).2.2 = false → (itemP num s).2.1.length + 1 ≤ s.1.length) ∧ (bs (itemP num s).1.name).length ≤ s.1.length ∧ (bs (itemP num s).1.id).length ≤ 64 := by
  unfold itemP
  simp only
  have h1 := takeP_len s 1
  have h2 := hd (takeP s 1).2
  have h3 := takeP_len (num (takeP s 1).2).2 (num (takeP s 1).2).1
  have h4 := takeP_len (takeP (num (takeP s 1).2).2 (num (takeP s 1).2).1).2 32
  unfold oneP hashP
  simp only [bs_mkS, hexS, hexL_length]
  refine ⟨by omega, fun h => ?_, by omega, by omega⟩
  have q4 := h4.2.2.2 h
  have q3 := h3.2.2.2 q4.2
  have q2 := h2.2 q3.2
  have q1 := h1.2.2.2 q2
  omega
theorem hashP_len (s : Src) : (hashP s).2.1.length ≤ s.1.length ∧ ((hashP s).2.2 = false → (hashP s).2.1.length + 32 ≤ s.1.length) ∧ (bs (hashP s).1).length ≤ 64 := by
  unfold hashP
  have h1 := takeP_len s 32
  simp only [bs_mkS, hexS, hexL_length]
  exact ⟨by omega, fun h => (h1.2.2.2 h).1, by omega⟩
theorem itemsP_ok {num : Src → Nat × Src} (hd : Down num) : ∀ (k : Nat) (s : Src) (acc : List It) (L : Nat), s.1.length + acc.length ≤ L + (if s.2 then 1 else 0) → s.1.length ≤ L → (∀ x ∈ acc, (bs x.name).length ≤ L ∧ (bs x.id).length ≤ 64) →
    (itemsP num k s acc).2.1.length ≤ L ∧ (itemsP num k s acc).1.length ≤ L + 1 ∧ ∀ x ∈ (itemsP num k s acc).1, (bs x.name).length ≤ L ∧ (bs x.id).length ≤ 64
  | 0, s, acc, L, h, hs, ha => by
    simp only [itemsP]
    refine ⟨hs, ?_, ha⟩
    split at h <;> omega
  | k + 1, s, acc, L, h, hs, ha => by
    unfold itemsP
    by_cases h2 : s.2 = true
    · rw [if_pos h2]
      refine ⟨hs, ?_, ha⟩
      rw [h2] at h
      simp at h
      simp only
      omega
    · rw [if_neg h2]
      have hl := itemP_len hd s
      simp only [h2] at h
      refine itemsP_ok hd k _ _ L ?_ (by omega) fun x hx => ?_
      · simp only [List.length_append, List.length_cons, List.length_nil]
        cases hq : (itemP num s).2.2 with
        | true => simp at h ⊢; omega
        | false => have := hl.2.1 hq; simp at h ⊢; omega
      · rcases List.mem_append.1 hx with hx | hx
        · exact ha x hx
        · rw [List.mem_singleton.1 hx]
          exact ⟨by omega, hl.2.2.2⟩
theorem hashesP_ok : ∀ (k : Nat) (s : Src) (acc : List ByteArray) (L : Nat), s.1.length + acc.length ≤ L + (if s.2 then 1 else 0) → s.1.length ≤ L → (∀ x ∈ acc, (bs x).length ≤ 64) →
    (hashesP k s acc).2.1.length ≤ L ∧ (hashesP k s acc).1.length ≤ L + 1 ∧ ∀ x ∈ (hashesP k s acc).1, (bs x).length ≤ 64
  | 0, s, acc, L, h, hs, ha => by
    simp only [hashesP]
    refine ⟨hs, ?_, ha⟩
    split at h <;> omega
  | k + 1, s, acc, L, h, hs, ha => by
    unfold hashesP
    by_cases h2 : s.2 = true
    · rw [if_pos h2]
      refine ⟨hs, ?_, ha⟩
      rw [h2] at h
      simp at h
      simp only
      omega
    · rw [if_neg h2]
      have hl := hashP_len s
      simp only [h2] at h
      refine hashesP_ok k _ _ L ?_ (by omega) fun x hx => ?_
      · simp only [List.length_append, List.length_cons, List.length_nil]
        cases hq : (hashP s).2.2 with
        | true => simp at h ⊢; omega
        | false => have := hl.2.1 hq; simp at h ⊢; omega
      · rcases List.mem_append.1 hx with hx | hx
        · exact ha x hx
        · rw [List.mem_singleton.1 hx]
          exact hl.2.2
theorem parse_modest {num : Src → Nat × Src} (hd : Down num) {kind : Int} {l : List UInt8} (hl : l.length ≤ 1048576) : Modest (parse num kind l).1 := by
  have short0 : Short noS := by unfold Short; simp [bs, noS]
  unfold parse
  split
  · exact ⟨by simp only; omega, by simp [ob0], by simp [ob0], short0, by simp [ob0], short0⟩
  split
  · have hn := hd (l, false)
    have := itemsP_ok hd (num (l, false)).1 (num (l, false)).2 [] l.length (by simp only [List.length_nil]; have := hn.1; simp only at this; omega) hn.1 (by simp)
    exact ⟨by simp [ob0], by simp only; omega, fun x hx => by have := this.2.2 x hx; unfold Short; exact ⟨by omega, by omega⟩, short0, by simp [ob0], short0⟩
  split
  · unfold parseC
    simp only
    have h1 := hashP_len (l, false)
    have h2 : (oneP (hashP (l, false)).2).2.1.length ≤ l.length := by have := takeP_len (hashP (l, false)).2 1; unfold oneP; simp only at h1 ⊢; omega
    have h3 := hashesP_ok (oneP (hashP (l, false)).2).1 (oneP (hashP (l, false)).2).2 [] l.length (by simp only [List.length_nil]; omega) h2 (by simp)
    refine ⟨by simp [ob0], by simp [ob0], by simp [ob0], by unfold Short; have := h1.2.2; simp only; omega, fun x hx => by have := h3.2.2 x hx; unfold Short; omega, ?_⟩
    unfold Short tailP
    simp only [bs_mkS]
    generalize hps : (hashesP (oneP (hashP (l, false)).2).1 (oneP (hashP (l, false)).2).2 []).2 = q at h3
    have k1 := hd q
    have k2 := hd (num q).2
    have k3 := hd (num (num q).2).2
    have k4 := takeP_len (num (num (num q).2).2).2 (num (num (num q).2).2).1
    omega
  · exact ⟨by simp [ob0], by simp [ob0], by simp [ob0], short0, by simp [ob0], short0⟩
end Go.Proofs.Ytcncgkkilgmphaa
