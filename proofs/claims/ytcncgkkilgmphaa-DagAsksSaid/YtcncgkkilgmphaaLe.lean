/-
  The law DagAsks, its function: for any commits and any names it returns true, and nothing that was there has turned.
-/
import Derived.Test.YtcncgkkilgmphaaLd
set_option linter.unusedVariables false
set_option linter.unusedSimpArgs false
namespace Go.Proofs.Ytcncgkkilgmphaa
open Go Go.RowKit

theorem run_newX (w : World) : (Instr.build 52 #[]).run Try.prog w = .ok (.agg #[.slice none 0 0, .slice none 0 0, .slice none 0 0]) w := by kernel_rfl
theorem run_boxX (w : World) : (Instr.box 52 (.agg #[.slice none 0 0, .slice none 0 0, .slice none 0 0])).run Try.prog w = .ok (.pointer (some ⟨w.heap.size, 0, none⟩)) (w.alloc (.cells #[.slice none 0 0, .slice none 0 0, .slice none 0 0] 52)) := by
  simp [go_sem, Instr.box]
theorem rg_new (w : World) : RG (w.alloc (.cells #[.slice none 0 0, .slice none 0 0, .slice none 0 0] 52)) (fun k => k = w.heap.size) (.pointer (some ⟨w.heap.size, 0, none⟩)) [] := by
  refine ⟨w.heap.size, _, _, _, [], rfl, heap_alloc_new w _, Own.nil _ _ _, Own.nil _ _ _, Own.nil _ _ _, trivial, List.nodup_nil, fun k hk => ?_⟩
  rcases hk with h | h | h | h
  · exact h
  all_goals simp [Value.ownBlock] at h
theorem run_neP {t : TypeId} {x y : Operand} {a : Addr} (w : World) (hm : Try.prog.underlying t = some (.pointer 92)) : (eqE .neq t x y (.pointer (some a)) (.pointer none)).run Try.prog w = .ok (.bool true) w := by
  simp [eqE, eqGuard, go_sem, hm]
theorem pg_ptr {w : World} {T : Nat → Prop} {v : Value} {G : List Cm} (h : PG w T v G) : ∃ gb, v = .pointer (some ⟨gb, 0, none⟩) := by
  obtain ⟨gb, mb, l, h, _⟩ := h
  exact ⟨gb, h⟩
theorem or_step {X : VF 1 → Prop} {K : Value → World → Prop} {w1 : World} (A : World → Prop) (h0 : A w1) (hX : ∀ j : VF 1, (∀ w, A w → j (.bool false) w) → X j) (hK : ∀ w, A w → K (.bool false) w) :
    JoinP 1 (fun j => GuardP (.bool false) false (X j) (j undef w1)) (fun t w => ∀ _ : Nat → Value, PickP (.bool false) (.bool true) t fun u => K u w) :=
  or_joinW A false h0 (fun _ => hX) hK
/-- two lists of texts that are the same, held against one another -/
theorem same_texts {w W : World} {a b : Value} {xs ys : List ByteArray} {k : Value → World → Prop} (ha : Row W a (strsV xs)) (hb : Row W b (strsV ys)) (hE : Ext w W) (he : xs = ys) (hk : ∀ W', Ext w W' → Ext W W' → k (.bool false) W') :
    Call Try.prog 24 #[a, b] W fun t w => Does Try.prog (Op.unary Go.UnOp.not t) w k := by
  refine (texts_spec ha hb).mono fun u w2 ⟨hu, hE2⟩ => ?_
  subst hu
  refine does_of (run_not w2) ?_
  simp only [he, decide_true, Bool.not_true]
  exact hk w2 (hE.trans hE2) hE2
set_option maxHeartbeats 4000000 in
theorem dagAsks_spec {w : World} {lv av : Value} {N : List Nd} {az : List ByteArray} {b : ByteArray} (hl : NR w lv N) (ha : Row w av (strsV az)) :
    Call Try.prog 4 #[lv, av, .string b] w fun v w' => v = .bool true ∧ Ext w w' := by
  apply vc4
  unfold V4
  refine first_spec.mono fun _ w1 ⟨hv, hE1⟩ => ?_
  subst hv
  refine does_of (run_not w1) ?_
  rw [show (!true) = false from rfl, condP_false]
  refine new_spec.mono fun g w2 ⟨hE2, hg⟩ => ?_
  obtain ⟨gb, rfl⟩ := pg_ptr hg
  refine does_of (run_eqP w2 u_graph) ?_
  have h2 := hE1.trans hE2
  have hNle := hl.le
  obtain ⟨bad, hbad⟩ : ∃ bad : Bool → Prop, bad = fun r => r = false → N.length ≤ 40 ∧ (∀ n ∈ N, n.ps.length ≤ 8) ∧ az.length ≤ 20 := ⟨_, rfl⟩
  refine join1 (fun t W => W = w2 ∧ ∃ r : Bool, t = .bool r ∧ (r = false → N.length ≤ 40 ∧ ∀ n ∈ N, n.ps.length ≤ 8)) ?_ ?_
  rotate_left
  · intro j hj
    rw [guardP_ff]
    refine (Few_spec (hl.ext h2)).mono fun r W ⟨hW, b1, hr, hb1⟩ => ?_
    subst hr hW
    exact does_of (run_not _) (hj _ _ ⟨rfl, !b1, rfl, fun h => hb1 (by simpa using h)⟩)
  rintro t36 W ⟨rfl, r1, rfl, hr1⟩ _
  rw [pickP_false]
  refine join1 (fun t W' => W' = W ∧ ((r1 = true ∧ t = undef) ∨ ∃ r : Bool, t = .bool r ∧ (r = false → az.length ≤ 20))) ?_ ?_
  rotate_left
  · intro j hj
    refine guardP_of (fun h => ?_) fun h => hj _ _ ⟨rfl, .inl ⟨by simpa using h, rfl⟩⟩
    refine (few_spec (ha.ext h2)).mono fun r W ⟨hW, b1, hr, hb1⟩ => ?_
    subst hr hW
    exact does_of (run_not _) (hj _ _ ⟨rfl, .inr ⟨!b1, rfl, fun h => hb1 (by simpa using h)⟩⟩)
  rintro t41 W' ⟨rfl, ht41⟩ _
  obtain ⟨r2, hr2, hfew⟩ : ∃ r2 : Bool, (if r1 then Value.bool true else t41) = .bool r2 ∧ (r2 = false → (N.length ≤ 40 ∧ ∀ n ∈ N, n.ps.length ≤ 8) ∧ az.length ≤ 20) := by
    rcases ht41 with ⟨rfl, rfl⟩ | ⟨r, rfl, hr⟩
    · exact ⟨true, rfl, by simp⟩
    · cases r1
      · exact ⟨r, rfl, fun h => ⟨hr1 rfl, hr h⟩⟩
      · exact ⟨true, rfl, by simp⟩
  refine pickP_of ?_
  rw [hr2]
  refine join1 (fun t V => V = W' ∧ ((r2 = true ∧ t = undef) ∨ ∃ r : Bool, t = .bool r)) ?_ ?_
  rotate_left
  · intro j hj
    refine guardP_of (fun h => ?_) fun h => hj _ _ ⟨rfl, .inl ⟨by simpa using h, rfl⟩⟩
    exact does_of (run_lenS _ _) (does_gt (hj _ _ ⟨rfl, .inr ⟨_, rfl⟩⟩))
  rintro t46 W' ⟨rfl, ht46⟩ _
  obtain ⟨r3, hr3, hfew3⟩ : ∃ r3 : Bool, (if r2 then Value.bool true else t46) = .bool r3 ∧ (r3 = false → r2 = false) := by
    rcases ht46 with ⟨rfl, rfl⟩ | ⟨r, rfl⟩
    · exact ⟨true, rfl, by simp⟩
    · cases r2
      · exact ⟨r, rfl, fun h => rfl⟩
      · exact ⟨true, rfl, by simp⟩
  refine pickP_of ?_
  rw [hr3]
  clear hbad bad
  refine condP_of (fun _ => ?_) fun h3 => ?_
  · refine does_of (run_neP _ u_graph) ?_
    refine and_joinW (fun W => Ext w W) true h2 (fun _ j hj => ?_) fun W hW => ⟨rfl, hW⟩
    exact first_spec.mono fun v W ⟨hv, hE⟩ => by subst hv; exact hj _ (h2.trans hE)
  obtain ⟨⟨hN, h8⟩, has⟩ := hfew (hfew3 h3)
  refine does_of (run_newX _) (does_of (run_boxX _) ?_)
  have hA := (Ext.refl W').alloc (.cells #[.slice none 0 0, .slice none 0 0, .slice none 0 0] 52)
  have hR0 := rg_new W'
  generalize hw3 : W'.alloc (.cells #[.slice none 0 0, .slice none 0 0, .slice none 0 0] 52) = w3 at hA hR0
  have hsz3 : w3.heap.size = W'.heap.size + 1 := by rw [← hw3]; simp
  have hP0 : PairG w w3 (.pointer (some ⟨gb, 0, none⟩)) (.pointer (some ⟨W'.heap.size, 0, none⟩)) [] := by
    have hs1 := hE1.size
    have hs2 := hE2.size
    refine ⟨h2.trans hA, fun k => w1.heap.size ≤ k ∧ k < W'.heap.size, fun k => k = W'.heap.size, ?_, hR0, fun k hk => ?_, fun k hk => ?_, fun k hk hk2 => ?_⟩
    · exact (hg.mono (U := fun k => w1.heap.size ≤ k ∧ k < W'.heap.size) fun k hk hh => ⟨hh, hk⟩).ext hA
    · omega
    · omega
    · omega
  clear hw3
  refine rounds1 (fun i : Nat => .int .i64 i) (fun i W => i ≤ N.length ∧ ∃ G, PairG w W (.pointer (some ⟨gb, 0, none⟩)) (.pointer (some ⟨W'.heap.size, 0, none⟩)) G ∧ Good G 8 ∧ G.length ≤ i) (fun i _ => N.length - i) 0 rfl ⟨by omega, [], hP0, good_nil 8, by simp⟩ ?_
  rintro next i W ⟨hi, G, hG, hgood, hGl⟩ hnext _
  obtain ⟨hEW, T, U, hT, hU, hTb, hUb, hTU⟩ := hG
  refine (hl.ext hEW).len (does_lt (condP_of (fun hlt => ?_) fun hge => ?_))
  · have hlt' : i < N.length := by simpa using hlt
    have hget := List.getElem?_eq_getElem hlt'
    have hps : (N[i]).ps.length ≤ 8 := h8 _ (List.getElem_mem hlt')
    obtain ⟨p, hp, c0, c1, c2, hrow, hst⟩ := (hl.ext hEW).at hget
    refine does_of (hp W) (does_of (run_fieldN p W).2.1 (does_load1 agg_strs c1 ?_))
    refine (copyTexts_spec hrow (by omega)).mono fun cv W2 ⟨hcv, hE2⟩ => ?_
    have hri : RowIn (fun k => ¬ T k ∧ ¬ U k ∧ k < W2.heap.size) W2 cv (strsV N[i].ps) := hcv.rowIn fun k hk1 hk2 => ⟨fun h => by have := hTb k h; omega, fun h => by have := hUb k h; omega, hk2⟩
    have hs2 := hE2.size
    refine region11 (hEW.trans hE2) (hT.ext hE2) (hU.ext hE2) (fun k hk => by have := hTb k hk; omega) (fun k hk => by have := hUb k hk; omega) hTU hri hl hget hps fun W3 hP3 hcr _ => ?_
    rw [condP_false]
    have hgood3 := good_add (id := (N[i]).id) (ps := (N[i]).ps) (st := (N[i]).st) hgood hps hst
    have hlen3 := addG_length G (N[i]).id (N[i]).ps (N[i]).st
    obtain ⟨hE3, T3, U3, hT3, hU3, hTb3, hUb3, hTU3⟩ := id hP3
    refine region13 hT3 hU3 (hl.ext hE3) hget (fun c hc => by have := hgood3.small c hc; omega) fun W4 hE4 _ => ?_
    rw [condP_false]
    exact does_add (by omega) (by omega) (hnext (i + 1) _ W4 (by simp) ⟨by omega, _, hP3.ext hE4, hgood3, by omega⟩ (by omega))
  have hG40 : G.length ≤ 40 := by omega
  have kA : AskOk G az 8 := ⟨hgood.fits, by omega, by omega⟩
  have kB : AskOk G [b] 8 := ⟨hgood.fits, by simp; omega, by omega⟩
  have kR : RAsk G 8 := ⟨hgood.topo, hgood.small, by omega⟩
  have hcl := hgood.topo.closed
  refine (copyTexts_spec (ha.ext hEW) (by omega)).mono fun cv w1 ⟨hcv, e1⟩ => ?_
  have f1 := hEW.trans e1
  refine (ancestors_spec (hT.ext e1) hcv.row kA).mono fun v w2 ⟨e2, sp, p, hv, op, hp⟩ => ?_
  subst hv
  refine ext_2a (ext_2b ?_)
  have f2 := f1.trans e2
  refine (rancestors_spec (hU.ext (e1.trans e2)) (ha.ext f2) kR).mono fun v w3 ⟨e3, sq, q, hv, oq, hq⟩ => ?_
  subst hv
  refine ext_2a (ext_2b ?_)
  have f3 := f2.trans e3
  refine (bases_spec (b := b) (hT.ext ((e1.trans e2).trans e3)) ((hcv.row.ext e2).ext e3) kA kB (by omega)).mono fun v w4 ⟨e4, sr, r, hv, or_, hr⟩ => ?_
  subst hv
  refine ext_2a (ext_2b ?_)
  have f4 := f3.trans e4
  refine (rbases_spec (b := b) (hU.ext (((e1.trans e2).trans e3).trans e4)) (ha.ext f4) kR (by omega)).mono fun v w5 ⟨e5, ss, s, hv, os, hs⟩ => ?_
  subst hv
  refine ext_2a (ext_2b ?_)
  have f5 := f4.trans e5
  have g5 := (((e1.trans e2).trans e3).trans e4).trans e5
  have c5 := (((hcv.row.ext e2).ext e3).ext e4).ext e5
  refine (tops_spec (hT.ext g5) c5 kA (by omega)).mono fun v w6 ⟨e6, st, t, hv, ot, ht⟩ => ?_
  subst hv
  refine ext_2a (ext_2b ?_)
  have f6 := f5.trans e6
  refine (rtops_spec (hU.ext (g5.trans e6)) (ha.ext f6) kR (by omega) (by omega)).mono fun v w7 ⟨e7, su, u, hv, ou, hu⟩ => ?_
  subst hv
  refine ext_2a (ext_2b ?_)
  have f7 := f6.trans e7
  have g7 := (g5.trans e6).trans e7
  have c7 := (c5.ext e6).ext e7
  refine (order_spec (hT.ext g7) c7 kA hgood.stamps).mono fun v w8 ⟨e8, sv, v1, hv, ov, hv1⟩ => ?_
  subst hv
  refine ext_2a (ext_2b ?_)
  have f8 := f7.trans e8
  refine (rorder_spec (hU.ext (g7.trans e8)) (ha.ext f8) kR).mono fun v w9 ⟨e9, sw, v2, hv, ow, hv2⟩ => ?_
  subst hv
  refine ext_2a (ext_2b ?_)
  have f9 := f8.trans e9
  have g9 := (g7.trans e8).trans e9
  have e39 := ((((((e3.trans e4).trans e5).trans e6).trans e7).trans e8).trans e9)
  have e59 := (((e5.trans e6).trans e7).trans e8).trans e9
  have e79 := (e7.trans e8).trans e9
  have c9 : Row w9 cv (strsV az) := (c7.ext e8).ext e9
  have x1 : p = q := same_set hp hq fun _ => Iff.rfl
  have x2 : r = s := same_set hr hs fun k => near_bases (fun k p ⟨h1, h2⟩ hpk => ⟨.step h1 hpk, .step h2 hpk⟩) k
  have x3 : t = u := same_set ht hu fun k => near_tops k
  have x4 : v1 = v2 := same_order hv1 hv2
  refine same_texts (op.row.ext e39) (oq.row.ext (((((e4.trans e5).trans e6).trans e7).trans e8).trans e9)) f9 x1 fun W1 F1 E1 => ?_
  refine or_step (fun W => Ext w W ∧ Ext w9 W) ⟨F1, E1⟩ (fun j hj => does_of (run_neI _) (by simpa using hj _ ⟨F1, E1⟩)) fun W2 ⟨F2, E2⟩ => ?_
  refine or_step (fun W => Ext w W ∧ Ext w9 W) ⟨F2, E2⟩ (fun j hj => same_texts ((or_.row.ext e59).ext E2) ((os.row.ext (((e6.trans e7).trans e8).trans e9)).ext E2) F2 x2 fun W' F' E' => hj _ ⟨F', E2.trans E'⟩) fun W3 ⟨F3, E3⟩ => ?_
  refine or_step (fun W => Ext w W ∧ Ext w9 W) ⟨F3, E3⟩ (fun j hj => does_of (run_neI _) (by simpa using hj _ ⟨F3, E3⟩)) fun W4 ⟨F4, E4⟩ => ?_
  refine or_step (fun W => Ext w W ∧ Ext w9 W) ⟨F4, E4⟩ (fun j hj => same_texts ((ot.row.ext e79).ext E4) ((ou.row.ext (e8.trans e9)).ext E4) F4 x3 fun W' F' E' => hj _ ⟨F', E4.trans E'⟩) fun W5 ⟨F5, E5⟩ => ?_
  refine or_step (fun W => Ext w W ∧ Ext w9 W) ⟨F5, E5⟩ (fun j hj => does_of (run_neI _) (by simpa using hj _ ⟨F5, E5⟩)) fun W6 ⟨F6, E6⟩ => ?_
  refine or_step (fun W => Ext w W ∧ Ext w9 W) ⟨F6, E6⟩ (fun j hj => same_texts ((ov.row.ext e9).ext E6) (ow.row.ext E6) F6 x4 fun W' F' E' => hj _ ⟨F', E6.trans E'⟩) fun W7 ⟨F7, E7⟩ => ?_
  refine or_step (fun W => Ext w W ∧ Ext w9 W) ⟨F7, E7⟩ (fun j hj => does_of (run_neI _) (by simpa using hj _ ⟨F7, E7⟩)) fun W8 ⟨F8, E8⟩ => ?_
  refine or_step (fun W => Ext w W ∧ Ext w9 W) ⟨F8, E8⟩ (fun j hj => same_texts (c9.ext E8) (ha.ext F8) F8 rfl fun W' F' E' => hj _ ⟨F', E8.trans E'⟩) fun W9 ⟨F9, E9⟩ => ?_
  rw [condP_false]
  refine q4_26 (Ext W9) (Ext.drawn _) fun _ => ?_
  refine qcall_of (.bool true) (fun W hW => first_spec.mono fun v W' ⟨h1, h2⟩ => ⟨h1, Ext.trans hW h2⟩) ?_
  have hrow := ha.ext F9
  have hle := hrow.len_le
  refine join1 (fun t _ => t = .bool (decide (az.length = 0))) ?_ ?_
  rotate_left
  · intro j hj
    rw [guardP_tt]
    refine q_len hrow u_strs (q_run run_eqI (hj _ _ ?_))
    simp
  rintro t273 _ rfl _
  refine join1 (fun t _ => az.length = 0 ∨ t = .bool true) ?_ ?_
  rotate_left
  · intro j hj
    refine guardP_of (fun h => ?_) fun h => hj _ _ (.inl (by simpa using h))
    have h0 : az.length ≠ 0 := by simpa using h
    have hgt : az[0]? = some az[0] := List.getElem?_eq_getElem (by omega)
    have hG9 : ∀ W, Ext W9 W → PG W T (.pointer (some ⟨gb, 0, none⟩)) G ∧ RG W U (.pointer (some ⟨W'.heap.size, 0, none⟩)) G := fun W hW => ⟨hT.ext ((g9.trans E9).trans hW), hU.ext ((g9.trans E9).trans hW)⟩
    haveI : Decidable (b ∈ idsOf G ∧ Anc G [b] az[0]) := Classical.propDecidable _
    refine q_text hrow hgt (qcall_of (.bool (decide (b ∈ idsOf G ∧ Anc G [b] az[0]))) (fun W hW => (is_spec (hG9 W hW).1 kB Iff.rfl).mono fun v W' ⟨h1, h2⟩ => ⟨h1, Ext.trans hW h2⟩) ?_)
    refine q_text hrow hgt (qcall_of (.bool (decide (b ∈ idsOf G ∧ Anc G [b] az[0]))) (fun W hW => (ris_spec (hG9 W hW).2 kR Iff.rfl).mono fun v W' ⟨h1, h2⟩ => ⟨h1, Ext.trans hW h2⟩) ?_)
    exact q_run run_eqB (hj _ _ (.inr (by simp)))
  rintro t286 _ ht _
  refine join1 (fun t _ => t = .bool true) ?_ ?_
  rotate_left
  · intro j hj
    rw [guardP_tt]
    refine pickP_of (hj _ _ ?_)
    rcases ht with h | h
    · simp [h]
    · simp [h]
  rintro t287 _ rfl _
  rw [pickP_true]
  exact fun W hW _ => ⟨rfl, F9.trans hW⟩
end Go.Proofs.Ytcncgkkilgmphaa
