/-
  Contract: reach.Whole; marlaw10.Few, marlaw12.few.
-/
import Derived.Test.YtcncgkkilgmphaaCd
set_option linter.unusedVariables false
set_option linter.unusedSimpArgs false
namespace Go.Proofs.Ytcncgkkilgmphaa
open Go Go.RowKit

theorem whole_spec {w : World} {fv av : Value} {ls : List (List UInt8)} {base lb eb ib most : Nat} {lv sv : Value} {a U : List ByteArray} (hs : IsSrc w fv ls false base lb eb ib lv sv) (hll : ∀ l ∈ ls, l.length ≤ 1048576)
    (ha : Row w av (strsV a)) (hal : a.length ≤ 1048576) (hm1 : 1 ≤ most) (hm2 : most ≤ 2000) (hU : ∀ x, Rch ls a x → x ∈ U) (hUl : U.length ≤ most) :
    Call Try.prog 17 #[fv, av, .int .i64 most] w fun r w' => Ext w w' ∧ ∃ mis, r = .bool (decide (mis.length = 0)) ∧ Strict mis ∧ ∀ x, x ∈ mis ↔ Rch ls a x ∧ isO ls x = false := by
  apply vc17
  unfold V17
  refine (closure_spec hs hll ha hal hm1 hm2 hU hUl).mono fun r w1 ⟨hE, mv, nv, met, mis, hr, h1, h2, h3, h4, h5, h6⟩ => ?_
  subst hr
  refine ex3a (ex3b (ex3c (does_of (run_eqI w1) ?_)))
  rw [show decide ((0 : Int) = 0) = true from rfl]
  refine and_join (decide (mis.length = 0)) (fun _ j hj => h2.len u_strs (does_of (run_eqI w1) ?_)) ⟨hE, mis, by simp, h4, h6⟩
  rw [show decide ((((strsV mis).length : Nat) : Int) = 0) = decide (mis.length = 0) by simp]
  exact hj
theorem run_min {P : Program} {t1 t2 ty : TypeId} {a b : Int} (w : World) : (Builtin.min_ #[t1, t2] ty #[.int .i64 a, .int .i64 b]).run P w = .ok (.int .i64 (min a b)) w := by
  simp [Builtin.min_, Builtin.min2, go_sem]
  split <;> omega
def sumLen (ls : List (List UInt8)) : Nat := (ls.map (·.length)).sum
structure FewSt where
  n : Nat
  i : Nat
theorem few_spec {w : World} {lv : Value} {ls : List (List UInt8)} (hr : RowsB w lv ls) : Call Try.prog 7 #[lv] w fun v w' => w' = w ∧ ∃ b : Bool, v = .bool b ∧ (b = true → ls.length ≤ 40 ∧ (∀ l ∈ ls, l.length ≤ 1500) ∧ sumLen ls ≤ 6000) := by
  apply vc7
  unfold V7
  obtain ⟨vs, hr1, hvl, hvr⟩ := id hr
  have hle := hr1.len_le
  refine rounds2 (σ := FewSt) (fun s => .int .i64 ((s.n : Nat) : Int)) (fun s => .int .i64 ((s.i : Nat) : Int)) (fun s W => W = w ∧ s.i ≤ ls.length ∧ s.i ≤ 40 ∧ (∀ l ∈ ls.take s.i, l.length ≤ 1500) ∧ s.n = min (sumLen (ls.take s.i)) 24000) (fun s _ => ls.length - s.i) ⟨0, 0⟩ rfl rfl ⟨rfl, by simp, by simp, by simp, by simp [sumLen]⟩ ?_
  rintro next ⟨n, i⟩ W ⟨rfl, hi, hi40, hsm, hn⟩ hnext _
  simp only at hi hi40 hsm hn ⊢
  refine hr1.len u_rows (does_lt ?_)
  rw [hvl]
  refine and_join (decide (i < 40)) (fun _ j hj => does_lt ?_) ?_
  · rw [show decide (((i : Nat) : Int) < 40) = decide (i < 40) by simp; omega]
    exact hj
  refine condP_of (fun hc => ?_) fun hc => ?_
  · simp only [Bool.and_eq_true, decide_eq_true_eq] at hc
    have hlt : i < ls.length := by have := hc.1; omega
    have hrow := hvr i (by omega) hlt
    refine hr1.index u_rows sz_bytesl (by omega) fun p hp => does_load1 agg_bytes hp ?_
    refine hrow.len u_bytes (does_of (run_min W) ?_)
    rw [bytesV_length]
    refine does_add (by omega) (by omega) (does_of (run_min W) ?_)
    refine hr1.index u_rows sz_bytesl (by omega) fun p hp => does_load1 agg_bytes hp ?_
    refine hrow.len u_bytes (does_gt ?_)
    rw [bytesV_length]
    refine condP_of (fun hgt => ⟨rfl, false, rfl, by simp⟩) fun hle => ?_
    have hle : ls[i].length ≤ 1500 := by simp at hle; omega
    refine does_add (by omega) (by omega) (hnext ⟨min (n + ls[i].length) 24000, i + 1⟩ _ _ W (by congr 1; simp only; omega) (by congr 1) ⟨rfl, hlt, hc.2, fun l hl => ?_, ?_⟩ (by simp only; omega))
    · simp only at hl
      rw [List.take_succ_eq_append_getElem hlt] at hl
      rcases List.mem_append.1 hl with hl | hl
      · exact hsm l hl
      · rw [List.mem_singleton.1 hl]; exact hle
    · simp only
      rw [List.take_succ_eq_append_getElem hlt]
      unfold sumLen at *
      rw [List.map_append, List.sum_append]
      simp only [List.map_cons, List.map_nil, List.sum_cons, List.sum_nil]
      omega
  · refine hr1.len u_rows (does_le ?_)
    rw [hvl]
    refine and_join (decide (n ≤ 6000)) (fun _ j hj => does_le ?_) ?_
    · rw [show decide (((n : Nat) : Int) ≤ 6000) = decide (n ≤ 6000) by simp; omega]
      exact hj
    refine ⟨rfl, _, rfl, fun h => ?_⟩
    simp only [Bool.and_eq_true, decide_eq_true_eq, Bool.and_eq_false_iff, decide_eq_false_iff_not] at h hc
    have hil : i = ls.length := by omega
    subst hil
    rw [List.take_length] at hsm hn
    exact ⟨by omega, hsm, by omega⟩
theorem few12_spec {w : World} {av : Value} {a : List ByteArray} (hr : Row w av (strsV a)) : Call Try.prog 8 #[av] w fun v w' => w' = w ∧ ∃ b : Bool, v = .bool b ∧ (b = true → a.length ≤ 20) := by
  apply vc8
  unfold V8
  have hle := hr.len_le
  have hlen : (strsV a).length = a.length := by simp
  refine rounds1 (σ := Nat) (fun i => .int .i64 ((i : Nat) : Int)) (fun i W => W = w ∧ i ≤ 20) (fun i _ => 20 - i) 0 rfl ⟨rfl, by omega⟩ ?_
  rintro next i W ⟨rfl, hi⟩ hnext _
  refine hr.len u_strs (does_lt ?_)
  rw [hlen]
  refine and_join (decide (i < 20)) (fun _ j hj => does_lt ?_) ?_
  · rw [show decide (((i : Nat) : Int) < 20) = decide (i < 20) by simp; omega]
    exact hj
  refine condP_of (fun hc => ?_) fun hc => ?_
  · simp only [Bool.and_eq_true, decide_eq_true_eq] at hc
    have hlt : i < a.length := by have := hc.1; omega
    refine hr.index u_strs sz_str (by rw [hlen]; exact hlt) fun p hp => does_load1 agg_str hp ?_
    rw [strsV_get hlt]
    refine does_of (run_lenStr _ W) (does_gt (condP_of (fun _ => ⟨rfl, false, rfl, by simp⟩) fun _ => ?_))
    exact does_add (by omega) (by omega) (hnext (i + 1) _ W (by congr 1) ⟨rfl, hc.2⟩ (by omega))
  · refine hr.len u_strs (does_le ?_)
    rw [hlen]
    exact ⟨rfl, _, rfl, fun h => by simp at h; omega⟩
end Go.Proofs.Ytcncgkkilgmphaa
