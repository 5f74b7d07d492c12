/-
  The law ReachDiffers, its statement: whatever the input, the law returns true and the input reads as it did.
-/
import Derived.Test.YtcncgkkilgmphaaRows
import Derived.Test.YtcncgkkilgmphaaEc
import Derived.WalkKit
import Derived.ProofKit
import Derived.OpenShut
import Derived.ShutString
import Derived.ChangeOld
import Derived.Below
import Derived.Deep.Strs
set_option linter.unusedVariables false
set_option linter.unusedSimpArgs false
namespace Go.Proofs.Ytcncgkkilgmphaa.reachDiffersDone
open Go Go.RowKit Go.ChangeShapes Go.WideShapes Go.ChangeAt
open Go.ChangeMaps (open_string shut_string)

theorem own : ownKnob Try.prog.godebug = none := by kernel_rfl
theorem laidOut : laidOutB Try.prog = true := by kernel_rfl
section
variable {H : Type} {enc : TypeId × Value → H} {w : World} {spare : Nat → Bool} {held : Bool}
theorem row_of_trod {n : Nat} {cs : List Value} {y : DataW H × List MemPlace} (h : DataW.trod enc Try.prog w 0 spare held n 23 cs = some y) : ∃ v ss, cs = [v] ∧ Row w v (strsV ss) := by
  rcases open_strings Try.underlying23 Try.underlying9 (by kernel_rfl) h with ⟨hcs, _⟩ | ⟨a, len, cap, ss, hcs, _, hl, hm, hz, _, hcell, _⟩
  · exact ⟨_, [], hcs, Row.nil _ _ _⟩
  · have hle : len ≤ ss.length := by rw [hz]; split <;> omega
    have hlen : (strsV (ss.take len)).length = len := by simp; omega
    refine ⟨_, ss.take len, hcs, some a, cap, by rw [hlen], ⟨by rw [hlen]; omega, by rw [hlen]; omega⟩, fun j x hj => ⟨a, rfl, ?_⟩⟩
    unfold strsV at hj
    rw [List.getElem?_map, List.getElem?_take] at hj
    split at hj
    · rename_i hjl
      rw [hcell j (by omega)]
      have hjs : j < ss.length := by omega
      simp only [List.getElem?_eq_getElem hjs, Option.map_some] at hj
      rw [← hj]
      simp [List.getD, hjs]
    · simp at hj
theorem bytes_of_trod {n : Nat} {cs : List Value} {y : DataW H × List MemPlace} (h : DataW.trod enc Try.prog w 0 spare held n 34 cs = some y) : ∃ v l, cs = [v] ∧ Row w v (bytesV l) := by
  rcases open_ints Try.underlying34 Try.underlying5 (by kernel_rfl) h with ⟨hcs, _⟩ | ⟨a, len, cap, zs, hcs, _, hl, hm, hz, _, hcell, hwz⟩
  · exact ⟨_, [], hcs, Row.nil _ _ _⟩
  · have hle : len ≤ zs.length := by rw [hz]; split <;> omega
    have hlen : (bytesV ((zs.take len).map fun n => UInt8.ofNat n.toNat)).length = len := by simp; omega
    refine ⟨_, (zs.take len).map fun n => UInt8.ofNat n.toNat, hcs, some a, cap, by rw [hlen], ⟨by rw [hlen]; omega, by rw [hlen]; omega⟩, fun j x hj => ⟨a, rfl, ?_⟩⟩
    unfold bytesV at hj
    rw [List.getElem?_map, List.getElem?_map, List.getElem?_take] at hj
    split at hj
    · rename_i hjl
      rw [hcell j (by omega)]
      have hjs : j < zs.length := by omega
      have hb := range_u8 hwz j
      simp only [List.getElem?_eq_getElem hjs, Option.map_some, Option.some.injEq] at hj
      rw [← hj]
      have e : zs.getD j 0 = zs[j] := by simp [List.getD, hjs]
      rw [← List.getD_eq_getElem?_getD, e] at hb
      rw [e]
      simp only [UInt8.toNat_ofNat']
      congr 2
      omega
    · simp at hj
theorem rows_of_trod {n : Nat} {v : Value} {y : DataW H × List MemPlace} (h : DataW.trod enc Try.prog w 0 spare held n 22 [v] = some y) : ∃ ls, RowsB w v ls := by
  rcases Deep.open_slice1 Try.underlying22 (by kernel_rfl) h with ⟨hcs, _⟩ | ⟨a, len, cap, m, n', V, D, Pl, hcs, _, hl, hm, hmm, _, hx⟩
  · simp at hcs
    subst hcs
    exact ⟨[], [], Row.nil _ _ _, rfl, fun i h => by simp at h⟩
  · have hlm : len ≤ m := by rw [hmm]; split <;> omega
    have each : ∀ i : Fin len, ∃ l : List UInt8, Row w (V i.val) (bytesV l) := by
      intro i
      obtain ⟨_, h2⟩ := hx i.val (by have := i.isLt; omega)
      obtain ⟨v, l, e, hr⟩ := bytes_of_trod h2
      simp at e
      subst e
      exact ⟨l, hr⟩
    obtain ⟨f, hf⟩ := Classical.axiomOfChoice each
    simp at hcs
    refine ⟨List.ofFn f, List.ofFn fun i : Fin len => V i.val, ⟨some a, cap, by simpa using hcs, ⟨by simp; omega, by simp; omega⟩, fun j x hj => ⟨a, rfl, ?_⟩⟩, by simp, fun i h h' => ?_⟩
    · obtain ⟨hj1, hj2⟩ := List.getElem?_eq_some_iff.1 hj
      simp at hj1 hj2
      rw [(hx j (by omega)).1, hj2]
    · simp only [List.getElem_ofFn]
      exact hf ⟨i, by simpa using h⟩
end
set_option maxRecDepth 100000 in
theorem lifted (os : Os) (started : os.Started) (H : Type) (enc : TypeId × Value → H) :
    ReturnsInHanded {} Try.checked os 5 .any (Rows.reachDiffersSpec.pre6 enc Try.prog Try.f5 Rows.reachDiffersRow.domain false) (Rows.reachDiffersSpec.post enc Try.prog Try.f5 false true false false) := by
  refine returnsInHanded_of_change (C := Try.checked) own started (by kernel_rfl) Try.func5
    (ChangeSpec.witness6 (enc := enc) (C := Try.checked) false ⟨#[], #[.slice none 0 0, .slice none 0 0, .slice none 0 0], []⟩ 8 (by kernel_rfl) (by kernel_rfl) (by kernel_rfl) (by kernel_rfl)) ?_
  intro W base args ds gs before hval0 hW hcnd _
  have hval : ∀ (j : Nat) t v, Try.f5.params[j]? = some t → args[j]? = some v → Value.okWide Try.prog W .any base t v := hval0
  have hW' := hW
  obtain ⟨p, q, hA0, hV, rfl, hfz, hnd⟩ := hW
  have hA : DataW.TrodAll enc Try.prog W 0 (fun _ => true) true Try.f5.params.toList args.toList ds p := hA0
  rw [Try.params5] at hA hval
  obtain ⟨v0, vs0, d0, ds0, p0, q0, hargs, rfl, rfl, h0, r0⟩ := trodAll_cons hA
  obtain ⟨v1, vs1, d1, ds1, p1, q1, rfl, rfl, rfl, h1, r1⟩ := trodAll_cons r0
  obtain ⟨v2, vs2, d2, ds2, p2, q2, rfl, rfl, rfl, h2, r2⟩ := trodAll_cons r1
  obtain ⟨rfl, rfl, rfl⟩ := trodAll_nil r2
  obtain rfl : args = #[v0, v1, v2] := by cases args; simp_all
  obtain ⟨rfl, rfl⟩ := trodVars_none hV
  obtain ⟨a0, len0, cap0, rfl⟩ := okWide_slice Try.underlying22 (hval 0 22 v0 rfl rfl)
  obtain ⟨a1, len1, cap1, rfl⟩ := okWide_slice Try.underlying23 (hval 1 23 v1 rfl rfl)
  obtain ⟨a2, len2, cap2, rfl⟩ := okWide_slice Try.underlying23 (hval 2 23 v2 rfl rfl)
  have k0 := h0
  have k2 := h2
  have lt2 : ∀ x ∈ p2, x.block < W.heap.size := by obtain ⟨m, hm⟩ := k2; exact DataW.trod_lt m _ _ _ hm
  have k1 := h1
  have lt0 : ∀ x ∈ p0, x.block < W.heap.size := by obtain ⟨m, hm⟩ := k0; exact DataW.trod_lt m _ _ _ hm
  have lt1 : ∀ x ∈ p1, x.block < W.heap.size := by obtain ⟨m, hm⟩ := k1; exact DataW.trod_lt m _ _ _ hm
  obtain ⟨ls, w0⟩ : ∃ ls, RowsB W (.slice a0 len0 cap0) ls := by
    obtain ⟨fuel, hf⟩ := h0
    exact rows_of_trod (by simpa [Value.cells] using hf)
  obtain ⟨az, w1⟩ : ∃ az, Row W (.slice a1 len1 cap1) (strsV az) := by
    obtain ⟨fuel, hf⟩ := h1
    obtain ⟨v, ss, e, hr⟩ := row_of_trod (by simpa [Value.cells] using hf)
    simp at e
    subst e
    exact ⟨ss, hr⟩
  obtain ⟨bz, w2⟩ : ∃ az, Row W (.slice a2 len2 cap2) (strsV az) := by
    obtain ⟨fuel, hf⟩ := h2
    obtain ⟨v, ss, e, hr⟩ := row_of_trod (by simpa [Value.cells] using hf)
    simp at e
    subst e
    exact ⟨ss, hr⟩
  clear hA0 hval0
  refine (reachDiffers_spec w0 w1 w2).2.mono fun e W' ⟨v, he, hv, bel0⟩ => ?_
  have bel : Below W.heap.size W W' := bel0
  subst he
  subst hv
  exact ⟨_, rfl, _, _, _, [], _, [], hW', trodAll_mk1 (shut_bool Try.underlying4 _), (trodAll_cons_mk (Below.trod laidOut (by kernel_rfl) (of_decide_eq_true (by kernel_rfl)) k0 bel lt0) (trodAll_cons_mk (Below.trod laidOut (by kernel_rfl) (of_decide_eq_true (by kernel_rfl)) k1 bel lt1) (trodAll_cons_mk (Below.trod laidOut (by kernel_rfl) (of_decide_eq_true (by kernel_rfl)) k2 bel lt2) trodAll_mk0))), rfl, bel.frame _, fun h => by cases h⟩

theorem over : Rows.reachDiffersRow.holds Try.pinned (OpenSpec.ofChange Rows.reachDiffersSpec) :=
  OpenClaim.holds_of_wide 5 Try.f5 rfl rfl rfl rfl rfl rfl rfl ⟨rfl, rfl, rfl, rfl, rfl⟩ rfl rfl rfl rfl rfl (by kernel_rfl) Try.func5 (by kernel_rfl)
    (of_decide_eq_true (by kernel_rfl)) (by unfold Func.isWrapper; first | (rw [if_pos (by decide +kernel)]; kernel_rfl) | (rw [if_neg (by decide +kernel)]; exact ⟨rfl, rfl⟩))
    (fun os started H enc _ => lifted os started H enc)

/-- The statement. -/
theorem proved : Rows.ReachDiffersSaid := over
#print axioms proved
end Go.Proofs.Ytcncgkkilgmphaa.reachDiffersDone
