/-
  Contracts: may it be an object (package obj): parents, commits, the whole.
-/
import Derived.Test.YtcncgkkilgmphaaOe
set_option linter.unusedVariables false
set_option linter.unusedSimpArgs false
namespace Go.Proofs.Ytcncgkkilgmphaa
open Go Go.RowKit

theorem mayParents_spec {w : World} {v : Value} {l : List ByteArray} (hr : Row w v (strsV l)) (hs : ∀ x ∈ l, Short x) : Call Try.prog 88 #[v] w fun r w' => Ext w w' ∧ r = .bool (cd (ParentsOk l)) := by
  apply vc88
  unfold V88
  have hle := hr.len_le
  simp at hle
  refine hr.len u_strs ?_
  refine rounds1 (fun i : Nat => .int .i64 i) (fun i W => i ≤ l.length ∧ Ext w W ∧ (∀ x ∈ l.take i, Valid x) ∧ Strict (l.take i)) (fun i _ => l.length - i) 0 rfl ⟨Nat.zero_le _, Ext.refl _, by simp, by simp⟩ ?_
  rintro next i W ⟨hi, hE, hall, hst⟩ hnext _
  refine does_lt (condP_of (fun hlt => ?_) fun hge => ?_)
  · have hlt' : i < l.length := by simpa using hlt
    refine (hr.ext hE).index u_strs sz_str (by simpa using hlt') fun p hp => does_load1 agg_str hp ?_
    rw [strsV_get hlt']
    refine (valid_cd (hs _ (List.getElem_mem hlt'))).mono fun u W1 ⟨hE1, hu⟩ => ?_
    subst hu
    refine does_of (run_not W1) ?_
    refine or_and (pos := decide ((0 : Int) < i)) (le := !blt (l.getD (i - 1) noS) l[i]) (fun _ j hj => does_gt hj) (fun _ hpos j hj => ?_) ?_
    · have hi0 : 0 < i := by simpa using hpos
      refine does_sub (by omega) (by omega) ?_
      rw [show ((i : Int) - 1) = ((i - 1 : Nat) : Int) by omega]
      refine ((hr.ext hE).ext hE1).index u_strs sz_str (i := i - 1) (by simp; omega) fun p hp => does_load1 agg_str hp ?_
      rw [strsV_get (by omega)]
      refine does_of (run_leS W1) ?_
      have : l.getD (i - 1) noS = l[i - 1] := by simp [List.getD, show i - 1 < l.length by omega]
      rw [this] at hj
      exact hj
    · have hget : ∀ h0 : 0 < i, l.getD (i - 1) noS = l[i - 1] := fun h0 => by simp [List.getD, show i - 1 < l.length by omega]
      refine condP_of (fun hb => ⟨hE.trans hE1, cd_of (b := false) ⟨(fun h => by cases h), fun hI => ?_⟩⟩) fun hok => ?_
      · exfalso
        simp only [Bool.or_eq_true, Bool.and_eq_true, Bool.not_eq_true', decide_eq_true_eq, cd_false] at hb
        rcases hb with hb | ⟨hb1, hb2⟩
        · exact hb (hI.1 _ (List.getElem_mem hlt'))
        · have h0 : 0 < i := by omega
          have := strict_at hI.2.1 hlt' h0
          rw [hget h0, this] at hb2
          cases hb2
      · simp only [Bool.or_eq_false_iff, Bool.and_eq_false_iff, Bool.not_eq_false', decide_eq_false_iff_not, cd_iff] at hok
        obtain ⟨k4, k5⟩ := hok
        refine does_add (by omega) (by omega) (hnext (i + 1) _ W1 (by simp) ⟨hlt', hE.trans hE1, forall_take_succ hlt' hall k4, strict_take_succ hlt' hst fun h0 => ?_⟩ (by omega))
        rcases k5 with k5 | k5
        · omega
        · rw [hget h0] at k5
          exact k5
  · have hie : i = l.length := by simp at hge; omega
    rw [hie, List.take_length] at hall hst
    refine (hr.ext hE).len u_strs (does_le ⟨hE, cd_of ?_⟩)
    simp only [decide_eq_true_eq, strsV_length]
    exact ⟨fun h => ⟨hall, hst, by omega⟩, fun h => by have := h.2.2; omega⟩
section
variable {w0 w : World} {dv iv pv : Value} {o : Ob} {b : Nat} {k : Value → World → Prop}
/-- fields of an object in memory -/
structure OFld (W : World) (b : Nat) (dv iv pv : Value) (o : Ob) : Prop where
  blk : OBlk W b 72 dv iv pv o
  ob : IsOb W dv iv pv o
theorem OFld.ext {W W' : World} {b : Nat} {dv iv pv : Value} {o : Ob} (h : OFld W b dv iv pv o) (hE : Ext W W') : OFld W' b dv iv pv o := ⟨h.blk.ext hE, h.ob.ext hE⟩
theorem OFld.f0 (h : OFld w b dv iv pv o) (hk : k (.int .i64 o.kind) w) : Does Try.prog (Instr.fieldAt 72 (.pointer (some ⟨b, 0, none⟩)) 0) w fun t w => Does Try.prog (Instr.loadAt 3 t) w k := does_of (run_field_o b w).1 (does_load1 agg_i64 h.blk.cell.1 hk)
theorem OFld.f1 (h : OFld w b dv iv pv o) (hk : k dv w) : Does Try.prog (Instr.fieldAt 72 (.pointer (some ⟨b, 0, none⟩)) 1) w fun t w => Does Try.prog (Instr.loadAt 34 t) w k := does_of (run_field_o b w).2.1 (does_load1 agg_bytes h.blk.cell.2.1 hk)
theorem OFld.f2 (h : OFld w b dv iv pv o) (hk : k iv w) : Does Try.prog (Instr.fieldAt 72 (.pointer (some ⟨b, 0, none⟩)) 2) w fun t w => Does Try.prog (Instr.loadAt 70 t) w k := does_of (run_field_o b w).2.2.1 (does_load1 agg_items_o h.blk.cell.2.2.1 hk)
theorem OFld.f3 (h : OFld w b dv iv pv o) (hk : k (.string o.tree) w) : Does Try.prog (Instr.fieldAt 72 (.pointer (some ⟨b, 0, none⟩)) 3) w fun t w => Does Try.prog (Instr.loadAt 9 t) w k := does_of (run_field_o b w).2.2.2.1 (does_load1 agg_str h.blk.cell.2.2.2.1 hk)
theorem agg_strsl (w : World) : (isAgg 23).run Try.prog w = .ok false w := by kernel_rfl
theorem OFld.f4 (h : OFld w b dv iv pv o) (hk : k pv w) : Does Try.prog (Instr.fieldAt 72 (.pointer (some ⟨b, 0, none⟩)) 4) w fun t w => Does Try.prog (Instr.loadAt 23 t) w k := does_of (run_field_o b w).2.2.2.2.1 (does_load1 agg_strsl h.blk.cell.2.2.2.2.1 hk)
theorem OFld.f5 (h : OFld w b dv iv pv o) (hk : k (.int .i64 o.stamp) w) : Does Try.prog (Instr.fieldAt 72 (.pointer (some ⟨b, 0, none⟩)) 5) w fun t w => Does Try.prog (Instr.loadAt 3 t) w k := does_of (run_field_o b w).2.2.2.2.2.1 (does_load1 agg_i64 h.blk.cell.2.2.2.2.2.1 hk)
theorem OFld.f6 (h : OFld w b dv iv pv o) (hk : k (.int .i64 o.author) w) : Does Try.prog (Instr.fieldAt 72 (.pointer (some ⟨b, 0, none⟩)) 6) w fun t w => Does Try.prog (Instr.loadAt 3 t) w k := does_of (run_field_o b w).2.2.2.2.2.2.1 (does_load1 agg_i64 h.blk.cell.2.2.2.2.2.2.1 hk)
theorem OFld.f7 (h : OFld w b dv iv pv o) (hk : k (.string o.msg) w) : Does Try.prog (Instr.fieldAt 72 (.pointer (some ⟨b, 0, none⟩)) 7) w fun t w => Does Try.prog (Instr.loadAt 9 t) w k := does_of (run_field_o b w).2.2.2.2.2.2.2 (does_load1 agg_str h.blk.cell.2.2.2.2.2.2.2.1 hk)
/-- an argument, laid into memory -/
theorem box_o (h : IsOb w dv iv pv o) (hk : ∀ W, Ext w W → OFld W w.heap.size dv iv pv o → k (.pointer (some ⟨w.heap.size, 0, none⟩)) W) : Does Try.prog (Instr.box 72 (ObV dv iv pv o)) w k :=
  does_of (run_box_o h w) (hk _ (ext_any _ w) ⟨OBlk.new w _ dv iv pv o, h.ext (ext_any _ w)⟩)
end
theorem noCommit_spec {w : World} {dv iv pv : Value} {o : Ob} (h : IsOb w dv iv pv o) : Call Try.prog 85 #[ObV dv iv pv o] w fun r w' => Ext w w' ∧ r = .bool (cd (NoCommit o)) := by
  apply vc85
  unfold V85
  refine box_o h fun W hE hF => ?_
  refine hF.f3 (does_of (run_eqS W) ?_)
  refine and_join (decide (((o.parents.length : Nat) : Int) = 0)) (fun _ j hj => hF.f4 (hF.ob.pars.len u_strs (does_of (run_eqI W) (by simpa using hj)))) ?_
  refine and_join (decide (o.stamp = 0)) (fun _ j hj => hF.f5 (does_of (run_eqI W) hj)) ?_
  refine and_join (decide (o.author = 0)) (fun _ j hj => hF.f6 (does_of (run_eqI W) hj)) ?_
  refine and_join (decide (o.msg = { data := #[] })) (fun _ j hj => hF.f7 (does_of (run_eqS W) hj)) ⟨hE, cd_of ?_⟩
  simp only [Bool.and_eq_true, decide_eq_true_eq, NoCommit, noS]
  constructor
  · rintro ⟨⟨⟨⟨h1, h2⟩, h3⟩, h4⟩, h5⟩; exact ⟨h1, by omega, h3, h4, h5⟩
  · rintro ⟨h1, h2, h3, h4, h5⟩; exact ⟨⟨⟨⟨h1, by omega⟩, h3⟩, h4⟩, h5⟩
/-- the texts of an object are not too long -/
structure Modest (o : Ob) : Prop where
  dl : o.data.length ≤ 1099511627776
  il : o.items.length ≤ 1099511627776
  items : ∀ x ∈ o.items, Short x.name ∧ Short x.id
  tree : Short o.tree
  pars : ∀ x ∈ o.parents, Short x
  msg : Short o.msg
theorem may_spec {w : World} {dv iv pv : Value} {o : Ob} (h : IsOb w dv iv pv o) (hM : Modest o) : Call Try.prog 69 #[ObV dv iv pv o] w fun r w' => Ext w w' ∧ r = .bool (cd (May o)) := by
  apply vc69
  unfold V69
  refine box_o h fun W hE hF => hF.f0 (does_of (run_eqI W) (condP_of (fun hk => ?_) fun hk1 => ?_))
  · have hk : o.kind = 1 := by simpa using hk
    refine hF.f1 (hF.ob.data.len u_bytes (does_le ?_))
    refine and_join (decide (((o.items.length : Nat) : Int) = 0)) (fun _ j hj => hF.f2 (hF.ob.items.len_o (does_of (run_eqI W) hj))) ?_
    refine and_joinW (fun W' => Ext W W') (cd (NoCommit o)) (Ext.refl _) (fun _ j hj => does_of (run_load_o hF.ob hF.blk) ((noCommit_spec hF.ob).mono fun u W' ⟨g1, g2⟩ => by rw [g2]; exact hj _ g1)) fun W' hE' => ⟨hE.trans hE', cd_of ?_⟩
    simp only [Bool.and_eq_true, decide_eq_true_eq, cd_iff, bytesV_length, May]
    constructor
    · rintro ⟨⟨h1, h2⟩, h3⟩; exact .inl ⟨hk, by omega, by omega, h3⟩
    · rintro (⟨_, h1, h2, h3⟩ | ⟨h, _⟩ | ⟨h, _⟩)
      · exact ⟨⟨by omega, by omega⟩, h3⟩
      · omega
      · omega
  have hk1 : o.kind ≠ 1 := by simpa using hk1
  refine does_of (run_eqI W) (condP_of (fun hk => ?_) fun hk2 => ?_)
  · have hk : o.kind = 2 := by simpa using hk
    refine hF.f1 (hF.ob.data.len u_bytes (does_of (run_eqI W) ?_))
    refine and_joinW (fun W' => Ext W W') (cd (ItemsOk o.items)) (Ext.refl _) (fun _ j hj => hF.f2 ((mayItems_spec hF.ob.items hM.items).mono fun u W' ⟨g1, g2⟩ => by rw [g2]; exact hj _ g1)) fun W' hE' => ?_
    have hF' := hF.ext hE'
    refine and_joinW (fun W2 => Ext W W2) (cd (NoCommit o)) hE' (fun _ j hj => does_of (run_load_o hF'.ob hF'.blk) ((noCommit_spec hF'.ob).mono fun u W2 ⟨g1, g2⟩ => by rw [g2]; exact hj _ (hE'.trans g1))) fun W2 hE2 => ⟨hE.trans hE2, cd_of ?_⟩
    simp only [Bool.and_eq_true, decide_eq_true_eq, cd_iff, bytesV_length, May]
    constructor
    · rintro ⟨⟨h1, h2⟩, h3⟩; exact .inr (.inl ⟨hk, by omega, h2, h3⟩)
    · rintro (⟨h, _⟩ | ⟨_, h1, h2, h3⟩ | ⟨h, _⟩)
      · omega
      · exact ⟨⟨by omega, h2⟩, h3⟩
      · omega
  have hk2 : o.kind ≠ 2 := by simpa using hk2
  refine does_of (run_eqI W) (condP_of (fun hk => ?_) fun hk3 => ?_)
  · have hk : o.kind = 3 := by simpa using hk
    refine hF.f1 (hF.ob.data.len u_bytes (does_of (run_eqI W) ?_))
    refine and_join (decide (((o.items.length : Nat) : Int) = 0)) (fun _ j hj => hF.f2 (hF.ob.items.len_o (does_of (run_eqI W) hj))) ?_
    refine and_joinW (fun W' => Ext W W') (cd (Valid o.tree)) (Ext.refl _) (fun _ j hj => hF.f3 ((valid_cd hM.tree).mono fun u W' ⟨g1, g2⟩ => by rw [g2]; exact hj _ g1)) fun W1 hE1 => ?_
    have hF1 := hF.ext hE1
    refine and_joinW (fun W' => Ext W W') (cd (ParentsOk o.parents)) hE1 (fun _ j hj => hF1.f4 ((mayParents_spec hF1.ob.pars hM.pars).mono fun u W' ⟨g1, g2⟩ => by rw [g2]; exact hj _ (hE1.trans g1))) fun W2 hE2 => ?_
    have hF2 := hF.ext hE2
    refine and_join (decide (0 ≤ o.stamp)) (fun _ j hj => hF2.f5 (does_ge hj)) ?_
    refine and_join (decide (o.stamp ≤ 1099511627776)) (fun _ j hj => hF2.f5 (does_le hj)) ?_
    refine and_join (decide (0 ≤ o.author)) (fun _ j hj => hF2.f6 (does_ge hj)) ?_
    refine and_join (decide (o.author ≤ 255)) (fun _ j hj => hF2.f6 (does_le hj)) ?_
    refine and_join (cd (MsgOk o.msg)) (fun _ j hj => hF2.f7 ((msg_cd hM.msg).mono fun u W' ⟨g1, g2⟩ => by rw [g2, g1]; exact hj)) ⟨hE.trans hE2, cd_of ?_⟩
    simp only [Bool.and_eq_true, decide_eq_true_eq, cd_iff, bytesV_length, May]
    constructor
    · rintro ⟨⟨⟨⟨⟨⟨⟨⟨h1, h2⟩, h3⟩, h4⟩, h5⟩, h6⟩, h7⟩, h8⟩, h9⟩; exact .inr (.inr ⟨hk, by omega, by omega, h3, h4, h5, h6, h7, h8, h9⟩)
    · rintro (⟨h, _⟩ | ⟨h, _⟩ | ⟨_, h1, h2, h3, h4, h5, h6, h7, h8, h9⟩)
      · omega
      · omega
      · exact ⟨⟨⟨⟨⟨⟨⟨⟨by omega, by omega⟩, h3⟩, h4⟩, h5⟩, h6⟩, h7⟩, h8⟩, h9⟩
  · have hk3 : o.kind ≠ 3 := by simpa using hk3
    refine ⟨hE, cd_of ⟨(fun h => by cases h), fun h => ?_⟩⟩
    rcases h with ⟨h, _⟩ | ⟨h, _⟩ | ⟨h, _⟩
    · exact absurd h hk1
    · exact absurd h hk2
    · exact absurd h hk3
end Go.Proofs.Ytcncgkkilgmphaa
