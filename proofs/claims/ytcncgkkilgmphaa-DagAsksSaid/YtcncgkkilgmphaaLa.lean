/-
  The law DagAsks: its small functions.
-/
import Derived.Test.YtcncgkkilgmphaaRf
import Derived.Test.YtcncgkkilgmphaaT6
set_option linter.unusedVariables false
set_option linter.unusedSimpArgs false
namespace Go.Proofs.Ytcncgkkilgmphaa
open Go Go.RowKit

theorem run_lenS {s : ByteArray} (ty : TypeId) (w : World) : (Builtin.len_ #[9] ty #[.string s]).run Try.prog w = .ok (.int .i64 (s.size : Nat)) w := by
  simp [Builtin.len_, run_underlying u_str, goInt]
theorem few_spec {w : World} {v : Value} {xs : List ByteArray} (hr : Row w v (strsV xs)) : Call Try.prog 21 #[v] w fun r w' => w' = w ∧ ∃ b : Bool, r = .bool b ∧ (b = true → xs.length ≤ 20) := by
  apply vc21
  unfold V21
  have hle := hr.len_le
  simp at hle
  refine rounds1 (fun i : Nat => .int .i64 i) (fun i W => i ≤ xs.length ∧ W = w) (fun i _ => xs.length - i) 0 rfl ⟨by omega, rfl⟩ ?_
  rintro next i W ⟨hi, hW⟩ hnext _
  rw [hW]
  refine hr.len u_strs (does_lt (and_join (decide ((i : Int) < 20)) (fun _ j hj => does_lt hj) (condP_of (fun hlt => ?_) fun hge => ?_)))
  · have hlt' : i < xs.length := by simp at hlt; omega
    refine hr.index u_strs sz_str (by simpa using hlt') fun p hp => does_load1 agg_str hp ?_
    rw [strsV_get hlt']
    refine does_of (run_lenS _ w) (does_gt (condP_of (fun _ => ⟨rfl, false, rfl, by simp⟩) fun _ => ?_))
    exact does_add (by omega) (by omega) (hnext (i + 1) _ w (by simp) ⟨by omega, rfl⟩ (by omega))
  · exact hr.len u_strs (does_le ⟨rfl, _, rfl, fun h => by simp at h; omega⟩)
structure Nd where
  id : ByteArray
  pv : Value
  ps : List ByteArray
  st : Int
/-- v is a slice of commits as the law has them. -/
def NR (w : World) (v : Value) (N : List Nd) : Prop :=
  ∃ a c, v = .slice a N.length c ∧ N.length ≤ maxLen ∧ N.length ≤ c ∧ ∀ j n, N[j]? = some n → ∃ ad : Addr, a = some ad ∧ ad.spot = none ∧ w.cell? (ad.add (j * 3)) = some (.string n.id) ∧ w.cell? ((ad.add (j * 3)).add 1) = some n.pv ∧ w.cell? ((ad.add (j * 3)).add 2) = some (.int .i64 n.st) ∧ Row w n.pv (strsV n.ps) ∧ n.st ≤ 9223372036854775807
theorem NR.ext {w w' : World} {v : Value} {N : List Nd} (h : NR w v N) (hE : Ext w w') : NR w' v N := by
  obtain ⟨a, c, h1, h2, h3, h4⟩ := h
  exact ⟨a, c, h1, h2, h3, fun j n hj => by obtain ⟨ad, g1, g2, g3, g4, g5, g6, g7⟩ := h4 j n hj; exact ⟨ad, g1, g2, hE.cell g3, hE.cell g4, hE.cell g5, g6.ext hE, g7⟩⟩
theorem u_ndl : Try.prog.underlying 44 = some (.slice 54) := by kernel_rfl
theorem sz_nd (w : World) : (sizeOf 54).run Try.prog w = .ok 3 w := by kernel_rfl
theorem NR.len {w0 w : World} {v : Value} {N : List Nd} {ty : TypeId} {k : Value → World → Prop} (h : NR w0 v N) (hk : k (.int .i64 N.length) w) : Does Try.prog (Builtin.len_ #[44] ty #[v]) w k := by
  obtain ⟨a, c, rfl, _⟩ := h
  have he : Try.prog.elem 44 = 54 := by simp [Program.elem, u_ndl]
  rw [does_eq, run_len_slice (h := by rw [he]; exact u_ndl)]
  exact hk
theorem NR.le {w : World} {v : Value} {N : List Nd} (h : NR w v N) : (N.length : Int) ≤ 9223372036854775807 := by
  obtain ⟨a, c, _, h2, _⟩ := h
  simp only [maxLen] at h2
  omega
/-- an element's place -/
theorem NR.at {w0 : World} {v : Value} {N : List Nd} {j : Nat} {n : Nd} (h : NR w0 v N) (hj : N[j]? = some n) : ∃ p : Addr, (∀ W, (Instr.indexAt 44 v (.int .i64 (j : Nat))).run Try.prog W = .ok (.pointer (some p)) W) ∧
    w0.cell? (p.add 0) = some (.string n.id) ∧ w0.cell? (p.add 1) = some n.pv ∧ w0.cell? (p.add 2) = some (.int .i64 n.st) ∧ Row w0 n.pv (strsV n.ps) ∧ n.st ≤ 9223372036854775807 := by
  obtain ⟨a, c, rfl, h2, h3, h4⟩ := h
  obtain ⟨ad, rfl, g2, g3, g4, g5, g6, g7⟩ := h4 j n hj
  obtain ⟨hl, _⟩ := lt_of_getE hj
  have he : Try.prog.elem 44 = 54 := by simp [Program.elem, u_ndl]
  refine ⟨ad.add (j * 3), fun W => ?_, ?_, g4, g5, g6, g7⟩
  · rw [run_indexAt_slice (h := by rw [he]; exact u_ndl), if_pos ⟨by omega, by omega⟩, he, sz_nd]
    simp
  · have hs := cell_spot g3
    have : (ad.add (j * 3)).add 0 = ad.add (j * 3) := by rw [add_add' ad _ _ g2]; simp
    rw [this]; exact g3
theorem run_fieldN (p : Addr) (w : World) : (Instr.fieldAt 54 (.pointer (some p)) 0).run Try.prog w = .ok (.pointer (some (p.add 0))) w ∧ (Instr.fieldAt 54 (.pointer (some p)) 1).run Try.prog w = .ok (.pointer (some (p.add 1))) w ∧
    (Instr.fieldAt 54 (.pointer (some p)) 2).run Try.prog w = .ok (.pointer (some (p.add 2))) w := by
  refine ⟨?_, ?_, ?_⟩ <;> simp [go_sem, Instr.fieldAt]
theorem Few_spec {w : World} {v : Value} {N : List Nd} (hr : NR w v N) : Call Try.prog 20 #[v] w fun r w' => w' = w ∧ ∃ b : Bool, r = .bool b ∧ (b = true → N.length ≤ 40 ∧ ∀ n ∈ N, n.ps.length ≤ 8) := by
  apply vc20
  unfold V20
  have hle := hr.le
  refine rounds1 (fun i : Nat => .int .i64 i) (fun i W => i ≤ N.length ∧ W = w ∧ ∀ n ∈ N.take i, n.ps.length ≤ 8) (fun i _ => N.length - i) 0 rfl ⟨by omega, rfl, by simp⟩ ?_
  rintro next i W ⟨hi, hW, hall⟩ hnext _
  rw [hW]
  refine hr.len (does_lt (and_join (decide ((i : Int) < 40)) (fun _ j hj => does_lt hj) (condP_of (fun hlt => ?_) fun hge => ?_)))
  · have hlt' : i < N.length := by simp at hlt; omega
    have hget := List.getElem?_eq_getElem hlt'
    obtain ⟨p, hp, c0, c1, c2, hrow, _⟩ := hr.at hget
    obtain ⟨f0, f1, f2⟩ := run_fieldN p w
    refine does_of (hp w) (does_of f0 (does_load1 agg_str c0 (does_of (run_lenS _ w) (does_gt ?_))))
    refine or_join (decide ((8 : Int) < ((strsV N[i].ps).length : Nat))) (fun _ j hj => does_of (hp w) (does_of f1 (does_load1 agg_strs c1 (hrow.len u_strs (does_gt hj))))) (condP_of (fun _ => ⟨rfl, false, rfl, by simp⟩) fun hok => ?_)
    have h8 : N[i].ps.length ≤ 8 := by
      simp only [Bool.or_eq_false_iff, decide_eq_false_iff_not, strsV_length] at hok
      omega
    refine rounds1 (fun k : Nat => .int .i64 k) (fun k W => k ≤ N[i].ps.length ∧ W = w) (fun k _ => N[i].ps.length - k) 0 rfl ⟨by omega, rfl⟩ ?_
    rintro next2 k W2 ⟨hk, hW2⟩ hnext2 _
    rw [hW2]
    refine does_of (hp w) (does_of f1 (does_load1 agg_strs c1 (hrow.len u_strs (does_lt (condP_of (fun hlt2 => ?_) fun hge2 => ?_)))))
    · have hlt2' : k < N[i].ps.length := by simpa using hlt2
      refine does_of (hp w) (does_of f1 (does_load1 agg_strs c1 (hrow.index u_strs sz_str (by simpa using hlt2') fun p2 hp2 => does_load1 agg_str hp2 ?_)))
      rw [strsV_get hlt2']
      refine does_of (run_lenS _ w) (does_gt (condP_of (fun _ => ⟨rfl, false, rfl, by simp⟩) fun _ => ?_))
      exact does_add (by omega) (by omega) (hnext2 (k + 1) _ w (by simp) ⟨by omega, rfl⟩ (by omega))
    · refine does_add (by omega) (by omega) (hnext (i + 1) _ w (by simp) ⟨by omega, rfl, fun n hn => ?_⟩ (by omega))
      rw [take_succ hlt'] at hn
      rcases List.mem_append.1 hn with hn | hn
      · exact hall n hn
      · rw [List.mem_singleton.1 hn]; exact h8
  · refine hr.len (does_le ⟨rfl, _, rfl, fun h => ?_⟩)
    have h40 : N.length ≤ 40 := by simp at h; omega
    refine ⟨h40, fun n hn => hall n ?_⟩
    have : i = N.length := by
      simp at hge
      omega
    rw [this, List.take_length]
    exact hn
end Go.Proofs.Ytcncgkkilgmphaa
