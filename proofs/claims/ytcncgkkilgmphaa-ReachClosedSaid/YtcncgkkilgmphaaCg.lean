/-
  The law ReachClosed, its function.
-/
import Derived.Test.YtcncgkkilgmphaaCf
set_option linter.unusedVariables false
set_option linter.unusedSimpArgs false
namespace Go.Proofs.Ytcncgkkilgmphaa
open Go Go.RowKit

noncomputable def named (l : List UInt8) : List ByteArray := ((decO l).map refsOf).getD []
noncomputable def uni (ls : List (List UInt8)) (a : List ByteArray) : List ByteArray := a ++ ls.flatMap named
theorem named_len (l : List UInt8) : 32 * (named l).length ≤ l.length := by
  unfold named
  cases h : decO l with
  | none => simp
  | some o =>
    obtain ⟨h1, h2⟩ := decO_some h
    have := refs_len h1
    rw [h2] at this
    exact this
theorem nameds_len : ∀ ls : List (List UInt8), 32 * (ls.flatMap named).length ≤ sumLen ls
  | [] => by simp
  | l :: ls => by
    have h1 := named_len l
    have h2 := nameds_len ls
    simp only [List.flatMap_cons, List.length_append, sumLen, List.map_cons, List.sum_cons] at h2 ⊢
    omega
theorem uni_len {ls : List (List UInt8)} {a : List ByteArray} (h : sumLen ls ≤ 6000) (ha : a.length ≤ 20) : (uni ls a).length ≤ 2000 := by
  have := nameds_len ls
  unfold uni
  rw [List.length_append]
  omega
theorem uni_rch {ls : List (List UInt8)} {a : List ByteArray} : ∀ {x}, Rch ls a x → x ∈ uni ls a := fun h => by
  cases h with
  | start hx => exact List.mem_append.2 (.inl hx)
  | step _ ho hy =>
    obtain ⟨l, h1, h2⟩ := Option.bind_eq_some_iff.1 (by unfold getO at ho; exact ho)
    refine List.mem_append.2 (.inr (List.mem_flatMap.2 ⟨l, srcF_mem h1, ?_⟩))
    unfold named
    rw [h2]
    exact hy
theorem usort_len {l : List ByteArray} (h : l.Nodup) : (usort l).length = l.length :=
  Nat.le_antisymm (usort_length_le l) (nodup_le2 h fun x hx => mem_usort.2 hx)
theorem run_neB2 {x y : Operand} {a b : Bool} (w : World) : (eqE .neq 4 x y (.bool a) (.bool b)).run Try.prog w = .ok (.bool (!decide (a = b))) w := by
  cases a <;> cases b <;> kernel_rfl
theorem run_eqB2 {x y : Operand} {a b : Bool} (w : World) : (eqE .eql 4 x y (.bool a) (.bool b)).run Try.prog w = .ok (.bool (decide (a = b))) w := by
  cases a <;> cases b <;> kernel_rfl
/-- the source asked and what it said decoded -/
theorem asked {w : World} {fv : Value} {ls : List (List UInt8)} {base lb eb ib : Nat} {lv sv : Value} (hs : IsSrc w fv ls false base lb eb ib lv sv) (hll : ∀ l ∈ ls, l.length ≤ 1048576) (x : ByteArray)
    {K : Value → Value → Value → World → Prop}
    (hK : ∀ (bv : Value) (ok : Bool) dv iv pv o e W, Ext w W → OwnOb w W 87 dv iv pv o → (ok && decide (e = 0)) = isO ls x → (isO ls x = true → getO ls x = some o) → (isO ls x = false → o = ob0) → K (.bool ok) (ObV dv iv pv o) (.int .i64 e) W) :
    CallV Try.prog fv #[.string x] w fun t85 w => Does Try.prog (Instr.extract t85 0) w fun t86 w => Does Try.prog (Instr.extract t85 1) w fun t87 w =>
      Call Try.prog 15 #[t86] w fun t90 w => Does Try.prog (Instr.extract t90 0) w fun t91 w => Does Try.prog (Instr.extract t90 1) w fun t92 w => K t87 t91 t92 w := by
  refine callV_mono (source_call hs hll x) fun r w2 ⟨hE2, hr⟩ => ?_
  rcases hr with ⟨l, bv, hsr, rfl, hob⟩ | ⟨hsr, rfl⟩
  · refine ex2a (ex2b ((rdecode_spec hob.row (hll _ (srcF_mem hsr))).mono fun r w3 ⟨hE3, hd⟩ => ?_))
    rcases hd with ⟨o, dv, iv, pv, hmay, hen, rfl, hO⟩ | ⟨hno, rfl⟩
    · have hg : getO ls x = some o := by
        unfold getO
        rw [hsr, ← hen]
        exact decO_of hmay
      exact ex2a (ex2b (hK bv _ _ _ _ o 0 w3 (hE2.trans hE3) (hO.back hE2.size) (by simp [isO, hg]) (fun _ => hg) (fun h => by simp [isO, hg] at h)))
    · have hg : getO ls x = none := by
        unfold getO
        rw [hsr]
        exact decO_none.2 hno
      refine ex2a (ex2b (hK bv _ _ _ _ ob0 _ w3 (hE2.trans hE3) ⟨OwnB.nil _ _, Own3.nil _ _ _, Own.nil _ _ _⟩ ?_ (fun h => by simp [isO, hg] at h) (fun _ => rfl)))
      split <;> simp [isO, hg]
  · have hg : getO ls x = none := by
      unfold getO
      rw [hsr]
      rfl
    refine ex2a (ex2b ((rdecode_spec (l := []) (Row.nil _ _ _) (by simp)).mono fun r w3 ⟨hE3, hd⟩ => ?_))
    rcases hd with ⟨o, dv, iv, pv, hmay, hen, rfl, hO⟩ | ⟨hno, rfl⟩
    · simp [enc] at hen
    · exact ex2a (ex2b (hK (.slice none 0 0) _ _ _ _ ob0 _ w3 (hE2.trans hE3) ⟨OwnB.nil _ _, Own3.nil _ _ _, Own.nil _ _ _⟩ (by simp [isO, hg]) (fun h => by simp [isO, hg] at h) (fun _ => rfl)))
end Go.Proofs.Ytcncgkkilgmphaa
