/-
  Plain laws on lists of texts: sorted lists, merges, each once. No program in sight.
-/
import Derived.Test.YtcncgkkilgmphaaSt
set_option linter.unusedVariables false
set_option linter.unusedSimpArgs false
namespace Go.Proofs.Ytcncgkkilgmphaa
open Go

abbrev Sorted (l : List ByteArray) : Prop := l.Pairwise fun a b => blt b a = false
abbrev Strict (l : List ByteArray) : Prop := l.Pairwise fun a b => blt a b = true
theorem ble_trans {a b c : ByteArray} (h : blt b a = false) (k : blt c b = false) : blt c a = false := by
  cases h1 : blt c a with
  | false => rfl
  | true =>
    cases h2 : blt a b with
    | true => have := blt_trans h1 h2; rw [k] at this; cases this
    | false =>
      have := blt_total h2 h
      subst this
      rw [k] at h1
      cases h1
theorem sorted_unique {a b : List ByteArray} (ha : Sorted a) (hb : Sorted b) (h : a.Perm b) : a = b :=
  List.Perm.eq_of_pairwise (le := fun a b => blt b a = false) (fun x y _ _ h1 h2 => blt_total h2 h1) ha hb h
theorem Strict.sorted {l : List ByteArray} (h : Strict l) : Sorted l := h.imp fun h => blt_asymm h
theorem Strict.nodup {l : List ByteArray} (h : Strict l) : l.Nodup := h.imp fun h => by
  rintro rfl
  rw [blt_irrefl] at h
  cases h
theorem strict_unique {a b : List ByteArray} (ha : Strict a) (hb : Strict b) (h : ∀ x, x ∈ a ↔ x ∈ b) : a = b :=
  sorted_unique ha.sorted hb.sorted ((List.perm_ext_iff_of_nodup ha.nodup hb.nodup).2 h)
/-- the list in order -/
def insS (x : ByteArray) : List ByteArray → List ByteArray
  | [] => [x]
  | y :: l => if blt y x then y :: insS x l else x :: y :: l
def sortS : List ByteArray → List ByteArray
  | [] => []
  | x :: l => insS x (sortS l)
theorem insS_perm (x : ByteArray) : ∀ l, (insS x l).Perm (x :: l)
  | [] => List.Perm.refl _
  | y :: l => by
    unfold insS
    split
    · exact ((insS_perm x l).cons y).trans (List.Perm.swap x y l)
    · exact List.Perm.refl _
theorem sortS_perm : ∀ l, (sortS l).Perm l
  | [] => List.Perm.refl _
  | x :: l => (insS_perm x _).trans ((sortS_perm l).cons x)
theorem insS_sorted {x : ByteArray} : ∀ {l : List ByteArray}, Sorted l → Sorted (insS x l)
  | [], _ => by simp [insS]
  | y :: l, h => by
    obtain ⟨h1, h2⟩ := List.pairwise_cons.1 h
    unfold insS
    split
    · rename_i hy
      refine List.pairwise_cons.2 ⟨fun z hz => ?_, insS_sorted h2⟩
      rcases List.mem_cons.1 ((insS_perm x l).mem_iff.1 hz) with rfl | hz
      · exact blt_asymm hy
      · exact h1 z hz
    · rename_i hy
      have hy : blt y x = false := by simpa using hy
      refine List.pairwise_cons.2 ⟨fun z hz => ?_, h⟩
      rcases List.mem_cons.1 hz with rfl | hz
      · exact hy
      · exact ble_trans hy (h1 z hz)
theorem sortS_sorted : ∀ l, Sorted (sortS l)
  | [] => List.Pairwise.nil
  | x :: l => insS_sorted (sortS_sorted l)
theorem sortS_of {a b : List ByteArray} (ha : Sorted a) (h : a.Perm b) : a = sortS b := sorted_unique ha (sortS_sorted b) (h.trans (sortS_perm b).symm)
theorem mem_sortS {x : ByteArray} {l : List ByteArray} : x ∈ sortS l ↔ x ∈ l := (sortS_perm l).mem_iff
theorem sortS_length (l : List ByteArray) : (sortS l).length = l.length := (sortS_perm l).length_eq
/-- in order, each once -/
def insU (x : ByteArray) : List ByteArray → List ByteArray
  | [] => [x]
  | y :: l => if blt x y then x :: y :: l else if x = y then y :: l else y :: insU x l
def usort : List ByteArray → List ByteArray
  | [] => []
  | x :: l => insU x (usort l)
theorem mem_insU {x z : ByteArray} : ∀ {l : List ByteArray}, z ∈ insU x l ↔ z = x ∨ z ∈ l
  | [] => by simp [insU]
  | y :: l => by
    unfold insU
    split
    · simp
    · split
      · rename_i h; subst h; simp
      · simp [mem_insU (l := l)]
        constructor
        · rintro (h | h | h) <;> simp [h]
        · rintro (h | h | h) <;> simp [h]
theorem insU_strict {x : ByteArray} : ∀ {l : List ByteArray}, Strict l → Strict (insU x l)
  | [], _ => by simp [insU]
  | y :: l, h => by
    obtain ⟨h1, h2⟩ := List.pairwise_cons.1 h
    unfold insU
    split
    · rename_i hy
      refine List.pairwise_cons.2 ⟨fun z hz => ?_, h⟩
      rcases List.mem_cons.1 hz with rfl | hz
      · exact hy
      · exact blt_trans hy (h1 z hz)
    · split
      · exact h
      · rename_i hy hne
        have hyx : blt y x = true := by
          cases h3 : blt y x with
          | true => rfl
          | false => exact absurd (blt_total (by simpa using hy) h3) hne
        refine List.pairwise_cons.2 ⟨fun z hz => ?_, insU_strict h2⟩
        rcases mem_insU.1 hz with rfl | hz
        · exact hyx
        · exact h1 z hz
theorem usort_strict : ∀ l, Strict (usort l)
  | [] => List.Pairwise.nil
  | x :: l => insU_strict (usort_strict l)
theorem mem_usort {x : ByteArray} : ∀ {l : List ByteArray}, x ∈ usort l ↔ x ∈ l
  | [] => by simp [usort]
  | y :: l => by simp [usort, mem_insU, mem_usort (l := l)]
theorem usort_of {a b : List ByteArray} (ha : Strict a) (h : ∀ x, x ∈ a ↔ x ∈ b) : a = usort b := strict_unique ha (usort_strict b) fun x => (h x).trans mem_usort.symm
theorem usort_length_le (l : List ByteArray) : (usort l).length ≤ l.length := by
  induction l with
  | nil => simp [usort]
  | cons x l ih =>
    have : ∀ m : List ByteArray, (insU x m).length ≤ m.length + 1 := by
      intro m
      induction m with
      | nil => simp [insU]
      | cons y m ih => unfold insU; split <;> (try split) <;> simp_all
    simp only [usort, List.length_cons]
    have := this (usort l)
    omega
theorem usort_congr {a b : List ByteArray} (h : ∀ x, x ∈ a ↔ x ∈ b) : usort a = usort b := usort_of (usort_strict a) fun x => mem_usort.trans (h x)
/-- neighbours alike struck -/
theorem sorted_append {a b : List ByteArray} : Sorted (a ++ b) ↔ Sorted a ∧ Sorted b ∧ ∀ x ∈ a, ∀ y ∈ b, blt y x = false := List.pairwise_append
theorem strict_append {a b : List ByteArray} : Strict (a ++ b) ↔ Strict a ∧ Strict b ∧ ∀ x ∈ a, ∀ y ∈ b, blt x y = true := List.pairwise_append

theorem ble_lt_trans {a b c : ByteArray} (h : blt b a = false) (k : blt b c = true) : blt a c = true := by
  cases h1 : blt a c with
  | true => rfl
  | false => have := ble_trans h1 h; rw [k] at this; cases this
theorem sorted_get {l : List ByteArray} (h : Sorted l) {i j : Nat} (hij : i ≤ j) (hj : j < l.length) : blt l[j] (l[i]'(by omega)) = false := by
  rcases Nat.lt_or_ge i j with hlt | hge
  · exact (List.pairwise_iff_getElem.1 h) i j (by omega) hj hlt
  · have : i = j := by omega
    subst this
    exact blt_irrefl _
theorem lt_next {l : List ByteArray} (h : Sorted l) {k : Nat} (hk : 1 ≤ k) (hkl : k < l.length) (hne : l[k] ≠ l[k - 1]'(by omega)) {y : ByteArray} (hy : y ∈ l.take k) : blt y l[k] = true := by
  obtain ⟨i, hi, rfl⟩ := List.mem_iff_getElem.1 hy
  simp only [List.length_take] at hi
  rw [List.getElem_take]
  have h1 := sorted_get h (i := i) (j := k - 1) (by omega) (by omega)
  have h2 := sorted_get h (i := k - 1) (j := k) (by omega) (by omega)
  refine ble_lt_trans h1 ?_
  cases h3 : blt (l[k - 1]'(by omega)) l[k] with
  | true => rfl
  | false => exact absurd (blt_total h2 h3) hne
theorem strict_snoc {a : List ByteArray} {x : ByteArray} (ha : Strict a) (h : ∀ y ∈ a, blt y x = true) : Strict (a ++ [x]) :=
  strict_append.2 ⟨ha, List.pairwise_singleton _ _, fun y hy z hz => by rw [List.mem_singleton.1 hz]; exact h y hy⟩
end Go.Proofs.Ytcncgkkilgmphaa
