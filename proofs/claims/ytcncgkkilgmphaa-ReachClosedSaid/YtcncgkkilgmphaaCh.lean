/-
  The law ReachClosed, its function: it returns true, and nothing that was there has turned.
-/
import Derived.Test.YtcncgkkilgmphaaCg
set_option linter.unusedVariables false
set_option linter.unusedSimpArgs false
namespace Go.Proofs.Ytcncgkkilgmphaa
open Go Go.RowKit

set_option maxHeartbeats 4000000 in
theorem reachClosed_spec {w : World} {lv av : Value} {ls : List (List UInt8)} {a : List ByteArray} (hl : RowsB w lv ls) (ha : Row w av (strsV a)) :
    Call Try.prog 3 #[lv, av] w fun v w' => v = .bool true ∧ Ext w w' := by
  apply vc3
  unfold V3
  refine first_spec.mono fun _ w1 ⟨hv, hE1⟩ => ?_
  subst hv
  refine does_of (run_not w1) ?_
  rw [show (!true) = false from rfl, condP_false]
  refine (few_spec (hl.ext hE1)).mono fun v w' ⟨hw, b1, hv, hb1⟩ => ?_
  subst hw hv
  refine does_of (run_not w') ?_
  refine join1 (fun t W => W = w' ∧ (b1 = true → ∃ b : Bool, t = .bool (!b) ∧ (b = true → a.length ≤ 20))) ?_ (fun j hj => guardP_of (fun h => ?_) fun h => hj _ _ ⟨rfl, fun h' => by subst h'; exact absurd rfl h⟩)
  rotate_left
  · refine (few12_spec (ha.ext hE1)).mono fun v w2 ⟨hw, b2, hv, hb2⟩ => ?_
    subst hw hv
    exact does_of (run_not w2) (hj _ _ ⟨rfl, fun _ => ⟨b2, rfl, hb2⟩⟩)
  rintro t26 W ⟨rfl, ht⟩ _
  have out : ∀ {W : World}, Ext w W → Call Try.prog 6 #[] W fun t28 w_1 => t28 = .bool true ∧ Ext w w_1 := fun hE => first_spec.mono fun v w2 ⟨h1, h2⟩ => ⟨h1, hE.trans h2⟩
  cases b1 with
  | false =>
    rw [show (!false) = true from rfl, pickP_true, condP_true]
    exact out hE1
  | true =>
  obtain ⟨b2, rfl, hb2⟩ := ht rfl
  rw [show (!true) = false from rfl, pickP_false]
  cases b2 with
  | false =>
    rw [show (!false) = true from rfl, condP_true]
    exact out hE1
  | true =>
  rw [show (!true) = false from rfl, condP_false]
  obtain ⟨hn40, h1500, h6000⟩ := hb1 rfl
  have ha20 := hb2 rfl
  have hll : ∀ l ∈ ls, l.length ≤ 1048576 := fun l hl => Nat.le_trans (h1500 l hl) (by omega)
  refine (source_spec (lie := false) (hl.ext hE1) hll (by omega)).mono fun fv w2 ⟨hE2, lb, eb, ib, sv, hs⟩ => ?_
  have ha2 := (ha.ext hE1).ext hE2
  refine (closure_spec (most := 2000) (U := uni ls a) hs hll ha2 (by omega) (by omega) (by omega) (fun x hx => uni_rch hx) (uni_len h6000 ha20)).mono fun r w3 ⟨hE3, mv, nv, met, mis, hr, h1, h2, h3, h4, h5, h6⟩ => ?_
  subst hr
  refine ex3a (ex3b (ex3c (does_of (run_neI w3) ?_)))
  rw [show (!decide ((0 : Int) = 0)) = false from rfl, condP_false]
  have hmetl : met.length ≤ 2000 := Nat.le_trans (nodup_le2 (m := uni ls a) h3.nodup fun x hx => uni_rch ((h5 x).1 hx).1) (uni_len h6000 ha20)
  have hmisl : mis.length ≤ 2000 := Nat.le_trans (nodup_le2 (m := uni ls a) h4.nodup fun x hx => uni_rch ((h6 x).1 hx).1) (uni_len h6000 ha20)
  refine (copyTexts_spec h1 (by omega)).mono fun cv w4 ⟨hc, hE4⟩ => ?_
  refine hc.pushS hE4 (h2.ext hE4) (by omega) fun allv w5 hall hE5 _ => ?_
  have hs5 := (hs.ext hE3).ext hE5
  have h15 := h1.ext hE5
  have h25 := h2.ext hE5
  have ha5 := (ha2.ext hE3).ext hE5
  have hr5 := hall.row
  have hE05 : Ext w w5 := hE1.trans (hE2.trans (hE3.trans hE5))
  have hmem : ∀ {x}, x ∈ met ++ mis ↔ Rch ls a x := fun {x} => by
    rw [List.mem_append, h5, h6]
    cases isO ls x <;> simp
  have hnd : (met ++ mis).Nodup := List.nodup_append.2 ⟨h3.nodup, h4.nodup, fun x hx y hy e => by
    subst e
    have g1 := ((h5 x).1 hx).2
    rw [((h6 x).1 hy).2] at g1
    cases g1⟩
  have halll : (met ++ mis).length ≤ 4000 := by rw [List.length_append]; omega
  generalize hA : met ++ mis = all at hall hr5 hmem hnd halll
  clear hall hc hE4 hE3 hE2 hs h1 h2 ha2
  -- the checks of both lists
  refine (rises_spec h15).mono fun v w6 ⟨hE6, hv⟩ => ?_
  subst hv
  rw [cd_iff.2 h3]
  refine does_of (run_not w6) ?_
  refine or_joinW (b1 := false) (fun W => Ext w5 W) false hE6 (fun _ j hj => ?_) fun w7 hE7 => ?_
  · refine (rises_spec (h25.ext hE6)).mono fun v w7 ⟨hE7, hv⟩ => ?_
    subst hv
    rw [cd_iff.2 h4]
    exact does_of (run_not w7) (hj _ (hE6.trans hE7))
  rw [show (false || false) = false from rfl]
  refine or_joinW (b1 := false) (fun W => Ext w5 W) false hE7 (fun _ j hj => ?_) fun w8 hE8 => ?_
  · refine (munique_spec (hr5.ext hE7) (by omega)).mono fun v w8 ⟨hu, hE8⟩ => ?_
    refine hu.row.len u_strs ((hr5.ext (hE7.trans hE8)).len u_strs (does_of (run_neI w8) ?_))
    rw [show (!decide ((((strsV (usort all)).length : Nat) : Int) = (((strsV all).length : Nat) : Int))) = false by simp [usort_len hnd]]
    exact hj _ (hE7.trans hE8)
  rw [show (false || false) = false from rfl, condP_false]
  -- what was asked for is among them
  refine rounds1 (σ := Nat) (fun i => .int .i64 ((i : Nat) : Int)) (fun i W => i ≤ a.length ∧ Ext w5 W) (fun i _ => a.length - i) 0 rfl ⟨Nat.zero_le _, hE8⟩ ?_
  rintro next4 i W ⟨hi, hE⟩ hnext _
  refine (ha5.ext hE).len u_strs (does_lt ?_)
  rw [strsV_length]
  refine condP_of (fun hlt => ?_) fun _ => ?_
  · have hlt : i < a.length := by simpa using hlt
    refine (ha5.ext hE).index u_strs sz_str (by rw [strsV_length]; exact hlt) fun p hp => does_load1 agg_str hp ?_
    rw [strsV_get hlt]
    refine (has_spec (hr5.ext hE)).mono fun v W2 ⟨hv, hE2⟩ => ?_
    subst hv
    rw [memB_iff.2 (hmem.2 (Rch.start (List.getElem_mem hlt)))]
    refine does_of (run_not W2) ?_
    rw [show (!true) = false from rfl, condP_false]
    exact does_add (by omega) (by omega) (hnext (i + 1) _ W2 (by congr 1) ⟨hlt, hE.trans hE2⟩ (by omega))
  clear hnext hi
  -- each is what it is said to be
  refine rounds1 (σ := Nat) (fun i => .int .i64 ((i : Nat) : Int)) (fun i W => i ≤ all.length ∧ Ext w5 W) (fun i _ => all.length - i) 0 rfl ⟨Nat.zero_le _, hE⟩ ?_
  clear hE
  rintro next5 i W ⟨hi, hE⟩ hnext _
  refine (hr5.ext hE).len u_strs (does_lt ?_)
  rw [strsV_length]
  refine condP_of (fun hlt => ?_) fun _ => ?_
  · have hlt : i < all.length := by simpa using hlt
    have idx : ∀ {W : World} {k : Value → World → Prop}, Ext w5 W → k (.string all[i]) W → Does Try.prog (Instr.indexAt 23 allv (.int .i64 (i : Nat))) W fun t w => Does Try.prog (Instr.loadAt 9 t) w k := fun hE hk =>
      (hr5.ext hE).index u_strs sz_str (by rw [strsV_length]; exact hlt) fun p hp => does_load1 agg_str hp (by rw [strsV_get hlt]; exact hk)
    have hrx : Rch ls a all[i] := hmem.1 (List.getElem_mem hlt)
    refine idx hE (asked (hs5.ext hE) hll all[i] fun bv ok dv iv pv o e W1 hE1' hO hok hgo hg0 => ?_)
    have hE1w := hE.trans hE1'
    refine does_of (run_alloc_r W1) ?_
    have hEa := ext_any (.cells (ObC (.slice none 0 0) (.slice none 0 0) (.slice none 0 0) ob0) 38) W1
    have hba : OBlk (W1.alloc (.cells (ObC (.slice none 0 0) (.slice none 0 0) (.slice none 0 0) ob0) 38)) W1.heap.size 38 (.slice none 0 0) (.slice none 0 0) (.slice none 0 0) ob0 := heap_alloc_new W1 _
    have hgeb : w5.heap.size ≤ W1.heap.size := hE1w.size
    generalize W1.alloc (.cells (ObC (.slice none 0 0) (.slice none 0 0) (.slice none 0 0) ob0) 38) = W2 at hEa hba
    generalize W1.heap.size = ob at hba hgeb ⊢
    have hOa := hO.ext hEa
    obtain ⟨W3, s1, s2, s3⟩ := run_store_r hOa.isOb hba
    have hO3 := hOa.mod (hba : Kp ob zObC 38 W2) (by decide) (by decide) (by decide) s3
    have hE3w : Ext w5 W3 := Mod.ext (hE1w.trans hEa) s3 fun k hk => by cases hk; exact hgeb
    refine does_of s1 ?_
    have hmemx : memB all[i] met = isO ls all[i] := by
      cases hio : isO ls all[i] with
      | true => exact memB_iff.2 ((h5 _).2 ⟨hrx, hio⟩)
      | false => exact memB_false.2 fun hx => by have := ((h5 _).1 hx).2; rw [hio] at this; cases this
    refine idx hE3w ((has_spec (h15.ext hE3w)).mono fun v W4 ⟨hv, hE4⟩ => ?_)
    subst hv
    rw [hmemx]
    refine and_join (decide (e = 0)) (fun _ j hj => does_of (run_eqI W4) hj) ?_
    rw [hok]
    refine does_of (run_neB2 W4) ?_
    rw [show (!decide (isO ls all[i] = isO ls all[i])) = false by simp, condP_false]
    have hO4 := hO3.ext hE4
    have hE4w := hE3w.trans hE4
    refine does_of (run_load_r hO4.isOb (s2.ext hE4)) ?_
    have hrl : (refsOf o).length ≤ 1048576 := by
      cases hio : isO ls all[i] with
      | true =>
        have hg := hgo hio
        obtain ⟨l, g1, g2⟩ := Option.bind_eq_some_iff.1 (by unfold getO at hg; exact hg)
        obtain ⟨g3, g4⟩ := decO_some g2
        have g5 := refs_len g3
        rw [g4] at g5
        have := hll l (srcF_mem g1)
        omega
      | false => rw [hg0 hio]; simp [refsOf, ob0]
    refine (rrefs_spec hO4.isOb hrl).mono fun rv W5 ⟨hE5', hrv⟩ => ?_
    have hE5w := hE4w.trans hE5'
    have hrr := hrv.row
    refine rounds1 (σ := Nat) (fun k => .int .i64 ((k : Nat) : Int)) (fun k W => k ≤ (refsOf o).length ∧ Ext W5 W) (fun k _ => (refsOf o).length - k) 0 rfl ⟨Nat.zero_le _, Ext.refl _⟩ ?_
    rintro next7 k W ⟨hk, hEW⟩ hnext7 _
    have hEw := hE5w.trans hEW
    refine (hrr.ext hEW).len u_strs (does_lt ?_)
    rw [strsV_length]
    refine and_joinW (fun W' => Ext W W') (isO ls all[i]) (Ext.refl _) (fun _ j hj => ?_) fun W6 hE6' => ?_
    · refine idx hEw ((has_spec (h15.ext hEw)).mono fun v W6 ⟨hv, hE6'⟩ => ?_)
      subst hv
      rw [hmemx]
      exact hj _ hE6'
    have hEw6 := hEw.trans hE6'
    refine condP_of (fun hc => ?_) fun _ => does_add (by omega) (by omega) (hnext (i + 1) _ W6 (by congr 1) ⟨hlt, hEw6⟩ (by omega))
    simp only [Bool.and_eq_true, decide_eq_true_eq] at hc
    have hklt : k < (refsOf o).length := by have := hc.1; omega
    refine (hrr.ext (hEW.trans hE6')).index u_strs sz_str (by rw [strsV_length]; exact hklt) fun p hp => does_load1 agg_str hp ?_
    rw [strsV_get hklt]
    refine (has_spec (hr5.ext hEw6)).mono fun v W7 ⟨hv, hE7'⟩ => ?_
    subst hv
    rw [memB_iff.2 (hmem.2 (Rch.step hrx (hgo hc.2) (List.getElem_mem hklt)))]
    refine does_of (run_not W7) ?_
    rw [show (!true) = false from rfl, condP_false]
    exact does_add (by omega) (by omega) (hnext7 (k + 1) _ W7 (by congr 1) ⟨hklt, hEW.trans (hE6'.trans hE7')⟩ (by omega))
  -- the end
  refine first_spec.mono fun v W2 ⟨hv, hE2⟩ => ?_
  subst hv
  have hEe := hE.trans hE2
  refine and_joinW (b1 := true) (fun W' => Ext w5 W') true hEe (fun _ j hj => ?_) fun W3 hE3 => ⟨rfl, hE05.trans hE3⟩
  refine (whole_spec (most := 2000) (U := uni ls a) (hs5.ext hEe) hll (ha5.ext hEe) (by omega) (by omega) (by omega) (fun x hx => uni_rch hx) (uni_len h6000 ha20)).mono fun v W3 ⟨hE3, mis2, hv, g1, g2⟩ => ?_
  subst hv
  have hmm : mis2 = mis := strict_unique g1 h4 fun x => (g2 x).trans (h6 x).symm
  subst hmm
  refine (h25.ext (hEe.trans hE3)).len u_strs (does_of (run_eqI W3) (does_of (run_eqB2 W3) ?_))
  rw [show decide (decide (mis2.length = 0) = decide ((((strsV mis2).length : Nat) : Int) = 0)) = true by simp]
  exact hj _ (hEe.trans hE3)
end Go.Proofs.Ytcncgkkilgmphaa
