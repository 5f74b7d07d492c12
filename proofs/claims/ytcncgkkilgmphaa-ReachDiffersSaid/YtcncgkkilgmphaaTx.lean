/-
  Contracts of small functions over texts.
-/
import Derived.Test.YtcncgkkilgmphaaSt
import Derived.Test.YtcncgkkilgmphaaT2
import Derived.Test.YtcncgkkilgmphaaT3
set_option linter.unusedVariables false
set_option linter.unusedSimpArgs false
namespace Go.Proofs.Ytcncgkkilgmphaa
open Go Go.RowKit

theorem strsV_get {xs : List ByteArray} {i : Nat} (h : i < xs.length) (h' : i < (strsV xs).length) : (strsV xs)[i] = .string xs[i] := by simp [strsV]
theorem sz_str (w : World) : (sizeOf 9).run Try.prog w = .ok 1 w := Try.sizeOf9 w
theorem agg_str (w : World) : (isAgg 9).run Try.prog w = .ok false w := Try.isAgg9 w
theorem u_strs : Try.prog.underlying 23 = some (.slice 9) := Try.underlying23
theorem info_str : infoOf Try.prog 9 (.string ByteArray.empty) 16 := by unfold infoOf; kernel_rfl
theorem strsV_one (xs : List ByteArray) : ∀ u ∈ strsV xs, u.oneCell' = true := by
  intro u hu
  unfold strsV at hu
  rw [List.mem_map] at hu
  obtain ⟨a, _, rfl⟩ := hu
  rfl
def memB (s : ByteArray) (xs : List ByteArray) : Bool := xs.any fun x => decide (x = s)
theorem memB_iff {s : ByteArray} {xs : List ByteArray} : memB s xs = true ↔ s ∈ xs := by
  unfold memB
  simp
theorem memB_false {s : ByteArray} {xs : List ByteArray} : memB s xs = false ↔ s ∉ xs := by
  rw [← memB_iff]; simp
theorem not_mem_take_succ {s : ByteArray} {xs : List ByteArray} {i : Nat} (h : s ∉ xs.take i) (hi : i < xs.length) (hn : xs[i] ≠ s) : s ∉ xs.take (i + 1) := by
  rw [List.take_succ_eq_append_getElem hi, List.mem_append, not_or]
  exact ⟨h, by simpa using Ne.symm hn⟩

theorem has_spec {w : World} {l : Value} {xs : List ByteArray} {s : ByteArray} (h : Row w l (strsV xs)) :
    Call Try.prog 14 #[l, .string s] w fun v w' => v = .bool (memB s xs) ∧ Ext w w' := by
  apply vc14
  unfold V14
  have hle := h.len_le
  simp at hle
  refine rounds1 (fun i : Nat => .int .i64 i) (fun i w' => i ≤ xs.length ∧ w' = w ∧ s ∉ xs.take i) (fun i _ => xs.length - i) 0 rfl ⟨by omega, rfl, by simp⟩ ?_
  rintro next i _ ⟨hi, rfl, hs⟩ hnext _
  refine h.len u_strs (does_lt (condP_of (fun hlt => ?_) fun hge => ?_))
  · simp at hlt
    refine h.index u_strs sz_str (by simpa using hlt) fun p hp => does_load1 agg_str hp ?_
    rw [strsV_get hlt]
    refine does_eqS (condP_of (fun he => ?_) fun hn => ?_)
    · simp at he
      exact ⟨by rw [memB_iff.2 (by simp [← he])], Ext.refl _⟩
    · simp at hn
      exact does_add (by omega) (by omega) (hnext (i + 1) _ _ (by simp) ⟨by omega, rfl, not_mem_take_succ hs hlt hn⟩ (by omega))
  · simp at hge
    have : i = xs.length := by omega
    subst this
    exact ⟨by rw [memB_false.2 (by simpa using hs)], Ext.refl _⟩
theorem texts_spec {w : World} {a b : Value} {xs ys : List ByteArray} (ha : Row w a (strsV xs)) (hb : Row w b (strsV ys)) :
    Call Try.prog 24 #[a, b] w fun v w' => v = .bool (decide (xs = ys)) ∧ Ext w w' := by
  apply vc24
  unfold V24
  have hle := ha.len_le
  simp at hle
  refine ha.len u_strs (hb.len u_strs (does_of (run_neI _) (condP_of (fun hne => ?_) fun heq => ?_)))
  · simp at hne
    exact ⟨by simp; intro h; rw [h] at hne; omega, Ext.refl _⟩
  simp at heq
  refine rounds1 (fun i : Nat => .int .i64 i) (fun i w' => i ≤ xs.length ∧ Ext w w' ∧ xs.take i = ys.take i) (fun i _ => xs.length - i) 0 rfl ⟨by omega, Ext.refl _, by simp⟩ ?_
  rintro next i w1 ⟨hi, hE, hs⟩ hnext _
  refine (ha.ext hE).len u_strs (does_lt (condP_of (fun hlt => ?_) fun hge => ?_))
  · simp at hlt
    refine q24_6 (Ext w1) (Ext.drawn _) fun _ => ?_
    refine q_index (ha.ext hE) u_strs sz_str (by simpa using hlt) fun p hp => q_load agg_str hp ?_
    refine q_index (hb.ext hE) u_strs sz_str (by simp; omega) fun p hp => q_load agg_str hp ?_
    rw [strsV_get hlt, strsV_get (by omega)]
    refine q_of run_neS fun W hW _ => condP_of (fun hne => ?_) fun heq' => ?_
    · simp at hne
      refine ⟨?_, hE.trans hW⟩
      simp only [Value.bool.injEq, decide_eq_false_iff_not, Bool.false_eq]
      intro h
      subst h
      exact hne rfl
    · simp at heq'
      refine does_add (by omega) (by omega) (hnext (i + 1) _ _ (by simp) ⟨by omega, hE.trans hW, ?_⟩ (by omega))
      rw [List.take_succ_eq_append_getElem hlt, List.take_succ_eq_append_getElem (by omega), hs, heq']
  · simp at hge
    have : i = xs.length := by omega
    subst this
    refine ⟨?_, hE⟩
    rw [List.take_length, List.take_of_length_le (by omega)] at hs
    simp [hs]
theorem copyTexts_spec {w : World} {a : Value} {xs : List ByteArray} (ha : Row w a (strsV xs)) (hl : xs.length ≤ 1099511627776) :
    Call Try.prog 11 #[a] w fun v w' => Own w' w.heap.size 9 v (strsV xs) ∧ Ext w w' := by
  apply vc11
  unfold V11
  refine does_of (run_buildSlice0 u_strs sz_str w) ?_
  have ho : Own (w.alloc (.cells #[] 9)) w.heap.size 9 (.slice (some ⟨w.heap.size, 0, none⟩) 0 0) [] := own_empty _ (Nat.le_refl _)
  refine ho.append u_strs info_str rfl (ha.ext ((Ext.refl w).alloc _)) (strsV_one _) (by simp; omega) (by omega) (by simp) fun v' w' hown hg hat => ⟨by simpa using hown, ?_⟩
  exact ((Ext.refl w).alloc _).grownOwn ho hg
theorem clone_spec {w : World} {a : Value} {xs : List ByteArray} (ha : Row w a (strsV xs)) (hl : xs.length ≤ 1099511627776) :
    Call Try.prog 48 #[a] w fun v w' => Own w' w.heap.size 9 v (strsV xs) ∧ Ext w w' := by
  apply vc48
  unfold V48
  obtain ⟨ad, c, rfl, h1, h2⟩ := id ha
  refine does_of (run_eql_slice_nil' u_strs w) (condP_of (fun hn => ?_) fun hn => ?_)
  · have : ad = none := by simpa using hn
    subst this
    have : strsV xs = [] := by
      cases h : strsV xs with
      | nil => rfl
      | cons y ys => obtain ⟨ad, h3, _⟩ := h2 0 y (by rw [h]; rfl); cases h3
    rw [this]
    exact ⟨Own.nil _ _ _, Ext.refl _⟩
  · refine does_of (run_buildSlice0 u_strs sz_str w) ?_
    have ho : Own (w.alloc (.cells #[] 9)) w.heap.size 9 (.slice (some ⟨w.heap.size, 0, none⟩) 0 0) [] := own_empty _ (Nat.le_refl _)
    refine ho.append u_strs info_str rfl (ha.ext ((Ext.refl w).alloc _)) (strsV_one _) (by simp; omega) (by omega) (by simp) fun v' w' hown hg hat => ⟨by simpa using hown, ?_⟩
    exact ((Ext.refl w).alloc _).grownOwn ho hg
end Go.Proofs.Ytcncgkkilgmphaa
