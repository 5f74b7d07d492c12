/-
  The law DagAsks, its statement: whatever the input, the law returns true and the input reads as it did.
-/
import Derived.Test.YtcncgkkilgmphaaRows
import Derived.Test.YtcncgkkilgmphaaLe
import Derived.WalkKit
import Derived.ProofKit
import Derived.OpenShut
import Derived.ShutString
import Derived.ChangeOld
import Derived.Below
import Derived.Deep.Strs
set_option linter.unusedVariables false
set_option linter.unusedSimpArgs false
namespace Go.Proofs.Ytcncgkkilgmphaa.dagAsksDone
open Go Go.RowKit Go.ChangeShapes Go.WideShapes Go.ChangeAt
open Go.ChangeMaps (open_string shut_string)

theorem own : ownKnob Try.prog.godebug = none := by kernel_rfl
theorem laidOut : laidOutB Try.prog = true := by kernel_rfl
section
variable {H : Type} {enc : TypeId × Value → H} {w : World} {spare : Nat → Bool} {held : Bool}
theorem row_of_trod {n : Nat} {cs : List Value} {y : DataW H × List MemPlace} (h : DataW.trod enc Try.prog w 0 spare held n 23 cs = some y) : ∃ v ss, cs = [v] ∧ Row w v (strsV ss) := by
  rcases open_strings Try.underlying23 Try.underlying9 (by kernel_rfl) h with ⟨hcs, _⟩ | ⟨a, len, cap, ss, hcs, _, hl, hm, hz, _, hcell, _⟩
  · exact ⟨_, [], hcs, Row.nil _ _ _⟩
  · have hle : len ≤ ss.length := by rw [hz]; split <;> omega
    have hlen : (strsV (ss.take len)).length = len := by simp; omega
    refine ⟨_, ss.take len, hcs, some a, cap, by rw [hlen], ⟨by rw [hlen]; omega, by rw [hlen]; omega⟩, fun j x hj => ⟨a, rfl, ?_⟩⟩
    unfold strsV at hj
    rw [List.getElem?_map, List.getElem?_take] at hj
    split at hj
    · rename_i hjl
      rw [hcell j (by omega)]
      have hjs : j < ss.length := by omega
      simp only [List.getElem?_eq_getElem hjs, Option.map_some] at hj
      rw [← hj]
      simp [List.getD, hjs]
    · simp at hj
theorem three (cs : List Value) (h : cs.length = 3) : ∃ a b c, cs = [a, b, c] := by
  match cs, h with
  | [a, b, c], _ => exact ⟨a, b, c, rfl⟩
theorem nodes_of_trod {n : Nat} {v : Value} {y : DataW H × List MemPlace} (h : DataW.trod enc Try.prog w 0 spare held n 44 [v] = some y) : ∃ N, NR w v N := by
  rcases Deep.open_slice Try.underlying44 h with ⟨hcs, _⟩ | ⟨a, len, cap, m, n', D, Pl, hcs, _, hl, hm, hmm, _, hx⟩
  · simp at hcs
    exact ⟨[], none, 0, hcs, by simp, by simp, fun j n hj => by simp at hj⟩
  · have hc : Try.prog.cellsOf 54 = 3 := by kernel_rfl
    have hlm : len ≤ m := by rw [hmm]; split <;> omega
    have each : ∀ i : Fin len, ∃ nd : Nd, w.cell? ((a.add (i.val * 3)).add 0) = some (.string nd.id) ∧ w.cell? ((a.add (i.val * 3)).add 1) = some nd.pv ∧ w.cell? ((a.add (i.val * 3)).add 2) = some (.int .i64 nd.st) ∧ Row w nd.pv (strsV nd.ps) ∧ nd.st ≤ 9223372036854775807 := by
      intro i
      obtain ⟨cs, h1, h2⟩ := hx i.val (by have := i.isLt; omega)
      rw [hc] at h1
      obtain ⟨_, hlen, hcell⟩ := World.cells?_some h1
      obtain ⟨y0, y1, y2, n2, _, _, g0, g1, g2⟩ := Deep.trod_struct3 Try.underlying54 h2
      have c0 : Try.prog.cellsOf 9 = 1 := by kernel_rfl
      have c1 : Try.prog.cellsOf 23 = 1 := by kernel_rfl
      have c2 : Try.prog.cellsOf 3 = 1 := by kernel_rfl
      obtain ⟨v0, v1, v2, rfl⟩ := three cs hlen
      · simp only [c0, c1, c2, List.drop_zero, List.drop_succ_cons, List.take_succ_cons, List.take_zero] at g0 g1 g2
        obtain ⟨s, e0, _, _⟩ := DataW.trod_string Try.underlying9 g0
        obtain ⟨v, ss, e1, hr⟩ := row_of_trod g1
        obtain ⟨k, e2, _, hk⟩ := DataW.trod_int Try.underlying3 g2
        simp only [List.cons.injEq, and_true] at e0 e1 e2
        subst e0 e1 e2
        refine ⟨⟨s, v1, ss, k⟩, hcell 0 (by omega), hcell 1 (by omega), hcell 2 (by omega), hr, ?_⟩
        have := bounds_i64 hk
        exact this.2
    obtain ⟨f, hf⟩ := Classical.axiomOfChoice each
    simp at hcs
    have hN : (List.ofFn f).length = len := by simp
    refine ⟨List.ofFn f, some a, cap, by rw [hN]; exact hcs, by rw [hN]; omega, by rw [hN]; omega, fun j nd hj => ⟨a, rfl, ?_⟩⟩
    obtain ⟨hj1, hj2⟩ := List.getElem?_eq_some_iff.1 hj
    rw [hN] at hj1
    have hget : f ⟨j, hj1⟩ = nd := by rw [← hj2]; simp
    obtain ⟨q0, q1, q2, q3, q4⟩ := hf ⟨j, hj1⟩
    rw [hget] at q0 q1 q2 q3 q4
    have hspot : a.spot = none := by
      obtain ⟨z0, _⟩ := hf ⟨0, by omega⟩
      have h1 := cell_spot z0
      rcases add_spot h1 with h2 | h2
      · rcases add_spot h2 with h3 | h3
        · exact h3
        · simp at h3
      · omega
    refine ⟨hspot, ?_, q1, q2, q3, q4⟩
    have hq : (a.add (j * 3)).add 0 = a.add (j * 3) := by rw [add_add' a _ _ hspot]; simp
    rw [hq] at q0
    exact q0
end
set_option maxRecDepth 100000 in
theorem lifted (os : Os) (started : os.Started) (H : Type) (enc : TypeId × Value → H) :
    ReturnsInHanded {} Try.checked os 4 .any (Rows.dagAsksSpec.pre6 enc Try.prog Try.f4 Rows.dagAsksRow.domain false) (Rows.dagAsksSpec.post enc Try.prog Try.f4 false true false false) := by
  refine returnsInHanded_of_change (C := Try.checked) own started (by kernel_rfl) Try.func4
    (ChangeSpec.witness6 (enc := enc) (C := Try.checked) false ⟨#[], #[.slice none 0 0, .slice none 0 0, .string ByteArray.empty], []⟩ 8 (by kernel_rfl) (by kernel_rfl) (by kernel_rfl) (by kernel_rfl)) ?_
  intro W base args ds gs before hval0 hW hcnd _
  have hval : ∀ (j : Nat) t v, Try.f4.params[j]? = some t → args[j]? = some v → Value.okWide Try.prog W .any base t v := hval0
  have hW' := hW
  obtain ⟨p, q, hA0, hV, rfl, hfz, hnd⟩ := hW
  have hA : DataW.TrodAll enc Try.prog W 0 (fun _ => true) true Try.f4.params.toList args.toList ds p := hA0
  rw [Try.params4] at hA hval
  obtain ⟨v0, vs0, d0, ds0, p0, q0, hargs, rfl, rfl, h0, r0⟩ := trodAll_cons hA
  obtain ⟨v1, vs1, d1, ds1, p1, q1, rfl, rfl, rfl, h1, r1⟩ := trodAll_cons r0
  obtain ⟨v2, vs2, d2, ds2, p2, q2, rfl, rfl, rfl, h2, r2⟩ := trodAll_cons r1
  obtain ⟨rfl, rfl, rfl⟩ := trodAll_nil r2
  obtain rfl : args = #[v0, v1, v2] := by cases args; simp_all
  obtain ⟨rfl, rfl⟩ := trodVars_none hV
  obtain ⟨a0, len0, cap0, rfl⟩ := okWide_slice Try.underlying44 (hval 0 44 v0 rfl rfl)
  obtain ⟨a1, len1, cap1, rfl⟩ := okWide_slice Try.underlying23 (hval 1 23 v1 rfl rfl)
  obtain ⟨b, rfl⟩ := okWide_string Try.underlying9 (hval 2 9 v2 rfl rfl)
  have k0 := h0
  have k1 := h1
  have k2 := h2
  have lt0 : ∀ x ∈ p0, x.block < W.heap.size := by obtain ⟨m, hm⟩ := k0; exact DataW.trod_lt m _ _ _ hm
  have lt1 : ∀ x ∈ p1, x.block < W.heap.size := by obtain ⟨m, hm⟩ := k1; exact DataW.trod_lt m _ _ _ hm
  have lt2 : ∀ x ∈ p2, x.block < W.heap.size := by obtain ⟨m, hm⟩ := k2; exact DataW.trod_lt m _ _ _ hm
  obtain ⟨N, w0⟩ : ∃ N, NR W (.slice a0 len0 cap0) N := by
    obtain ⟨fuel, hf⟩ := h0
    exact nodes_of_trod (by simpa [Value.cells] using hf)
  obtain ⟨az, w1⟩ : ∃ az, Row W (.slice a1 len1 cap1) (strsV az) := by
    obtain ⟨fuel, hf⟩ := h1
    obtain ⟨v, ss, e, hr⟩ := row_of_trod (by simpa [Value.cells] using hf)
    simp at e
    subst e
    exact ⟨ss, hr⟩
  clear hA0 hval0
  refine (dagAsks_spec (b := b) w0 w1).2.mono fun e W' ⟨v, he, hv, bel0⟩ => ?_
  have bel : Below W.heap.size W W' := bel0
  subst he
  subst hv
  exact ⟨_, rfl, _, _, _, [], _, [], hW', trodAll_mk1 (shut_bool Try.underlying4 _), (trodAll_cons_mk (Below.trod laidOut (by kernel_rfl) (of_decide_eq_true (by kernel_rfl)) k0 bel lt0) (trodAll_cons_mk (Below.trod laidOut (by kernel_rfl) (of_decide_eq_true (by kernel_rfl)) k1 bel lt1) (trodAll_cons_mk (Below.trod laidOut (by kernel_rfl) (of_decide_eq_true (by kernel_rfl)) k2 bel lt2) trodAll_mk0))), rfl, bel.frame _, fun h => by cases h⟩

theorem over : Rows.dagAsksRow.holds Try.pinned (OpenSpec.ofChange Rows.dagAsksSpec) :=
  OpenClaim.holds_of_wide 4 Try.f4 rfl rfl rfl rfl rfl rfl rfl ⟨rfl, rfl, rfl, rfl, rfl⟩ rfl rfl rfl rfl rfl (by kernel_rfl) Try.func4 (by kernel_rfl)
    (of_decide_eq_true (by kernel_rfl)) (by unfold Func.isWrapper; first | (rw [if_pos (by decide +kernel)]; kernel_rfl) | (rw [if_neg (by decide +kernel)]; exact ⟨rfl, rfl⟩))
    (fun os started H enc _ => lifted os started H enc)

/-- The statement. -/
theorem proved : Rows.DagAsksSaid := over
#print axioms proved
end Go.Proofs.Ytcncgkkilgmphaa.dagAsksDone
