/-
  Contracts: may it be an object (marref6)?
-/
import Derived.Test.YtcncgkkilgmphaaOf
set_option linter.unusedVariables false
set_option linter.unusedSimpArgs false
namespace Go.Proofs.Ytcncgkkilgmphaa
open Go Go.RowKit

theorem ritems_spec {w : World} {v : Value} {l : List It} (hr : IR w v l) (hs : ∀ x ∈ l, Short x.name ∧ Short x.id) : Call Try.prog 98 #[v] w fun r w' => Ext w w' ∧ r = .bool (cd (ItemsOk l)) := by
  apply vc98
  unfold V98
  have hle := hr.le
  refine rounds1 (fun i : Nat => .int .i64 i) (fun i W => i ≤ l.length ∧ Ext w W ∧ (∀ x ∈ l.take i, ItemOk x) ∧ Strict ((l.map (·.name)).take i)) (fun i _ => l.length - i) 0 rfl ⟨Nat.zero_le _, Ext.refl _, by simp, by simp⟩ ?_
  rintro next i W ⟨hi, hE, hall, hst⟩ hnext _
  refine (hr.ext hE).len_r (does_lt (condP_of (fun hlt => ?_) fun hge => ?_))
  · have hlt' : i < l.length := by simpa using hlt
    have hx := List.getElem?_eq_getElem hlt'
    obtain ⟨p, hp, hidx, c0, c1, c2⟩ := hr.at_r hx
    obtain ⟨s1, s2⟩ := hs _ (List.getElem_mem hlt')
    refine does_of (hidx .i64 W) (does_of (run_loadI_r hp (hE.cell c0) (hE.cell c1) (hE.cell c2)) ?_)
    refine local_r fun W2 hE2 hb => ?_
    obtain ⟨d0, d1, d2⟩ := local_cells hb
    have hsp : (⟨W.heap.size, 0, none⟩ : Addr).spot = none := rfl
    refine q98_5 (Ext W2) (Ext.drawn _) fun _ => ?_
    have fI := fun W => run_fieldI_r hsp W
    have l0 : ∀ W3, Ext W2 W3 → (Instr.loadAt 3 (.pointer (some ⟨W.heap.size, 0, none⟩))).run Try.prog W3 = .ok (.int .i64 l[i].mode) W3 := fun W3 h => run_load1 agg_i64 (h.cell d0)
    have l1 : ∀ W3, Ext W2 W3 → (Instr.loadAt 9 (.pointer (some ((⟨W.heap.size, 0, none⟩ : Addr).add 1)))).run Try.prog W3 = .ok (.string l[i].name) W3 := fun W3 h => run_load1 agg_str (h.cell d1)
    have l2 : ∀ W3, Ext W2 W3 → (Instr.loadAt 9 (.pointer (some ((⟨W.heap.size, 0, none⟩ : Addr).add 2)))).run Try.prog W3 = .ok (.string l[i].id) W3 := fun W3 h => run_load1 agg_str (h.cell d2)
    refine qx (fun W => (fI W).1) (qc l0 (qx run_lt ?_))
    refine or_join (decide ((4 : Int) < l[i].mode)) (fun _ j hj => qx (fun W => (fI W).1) (qc l0 (qx run_gt hj))) ?_
    refine or_join (!cd (NameOk l[i].name)) (fun _ j hj => qx (fun W => (fI W).2.1) (qc l1 (qcall_of (.bool (cd (NameOk l[i].name))) (fun W3 h => (rname_cd s1).mono fun v W4 ⟨h1, h2⟩ => ⟨h2, by rw [h1]; exact h⟩) (qx run_not hj)))) ?_
    refine or_join (!cd (Valid l[i].id)) (fun _ j hj => qx (fun W => (fI W).2.2) (qc l2 (qcall_of (.bool (cd (Valid l[i].id))) (fun W3 h => (rvalid_cd s2).mono fun v W4 ⟨h1, h2⟩ => ⟨h2, Ext.trans h h1⟩) (qx run_not hj)))) ?_
    refine or_and (pos := decide ((0 : Int) < i)) (le := !blt ((l.map (·.name)).getD (i - 1) noS) l[i].name) (fun _ j hj => qx run_gt hj) (fun _ hpos j hj => ?_) ?_
    · have hi0 : 0 < i := by simpa using hpos
      obtain ⟨p', hp', hidx', c0', c1', c2'⟩ := hr.at_r (i := i - 1) (x := l[i - 1]) (List.getElem?_eq_getElem (by omega))
      refine qx (fun W => (fI W).2.1) (qc l1 (qx (fun W => run_sub (by omega) (by omega) W) ?_))
      rw [show ((i : Int) - 1) = ((i - 1 : Nat) : Int) by omega]
      refine qx (hidx' .i64) (qx (fun W => (run_fieldI_r hp' W).2.1) (qc (fun W3 h => run_load1 agg_str (((hE.trans hE2).trans h).cell c1')) (qx run_leS ?_)))
      have : (l.map (·.name)).getD (i - 1) noS = l[i - 1].name := by simp [List.getD, show i - 1 < l.length by omega]
      rw [this] at hj
      exact hj
    · intro W3 hE3 _
      have hEW := (hE.trans hE2).trans hE3
      have hmem := List.getElem_mem hlt'
      have hget : ∀ h0 : 0 < i, (l.map (·.name)).getD (i - 1) noS = (l.map (·.name))[i - 1]'(by simp; omega) := fun h0 => by simp [List.getD, show i - 1 < l.length by omega]
      refine condP_of (fun hb => ⟨hEW, cd_of (b := false) ⟨(fun h => by cases h), fun hI => ?_⟩⟩) fun hok => ?_
      · exfalso
        obtain ⟨⟨m1, m2⟩, m3, m4⟩ := hI.1 _ hmem
        simp only [Bool.or_eq_true, Bool.and_eq_true, Bool.not_eq_true', decide_eq_true_eq, cd_false] at hb
        rcases hb with (((hb | hb) | hb) | hb) | ⟨hb1, hb2⟩
        · omega
        · omega
        · exact hb m3
        · exact hb m4
        · have h0 : 0 < i := by omega
          have := strict_at hI.2.1 (i := i) (by simpa using hlt') h0
          rw [hget h0] at hb2
          simp only [List.getElem_map] at this hb2
          rw [this] at hb2
          cases hb2
      · simp only [Bool.or_eq_false_iff, Bool.and_eq_false_iff, Bool.not_eq_false', decide_eq_false_iff_not, cd_iff] at hok
        obtain ⟨⟨⟨⟨k1, k2⟩, k3⟩, k4⟩, k5⟩ := hok
        refine does_add (by omega) (by omega) (hnext (i + 1) _ W3 (by simp) ⟨hlt', hEW, forall_take_succ hlt' hall ⟨⟨by omega, by omega⟩, k3, k4⟩, strict_take_succ (by simpa using hlt') hst fun h0 => ?_⟩ (by omega))
        rcases k5 with k5 | k5
        · omega
        · rw [hget h0] at k5
          simpa using k5
  · have hie : i = l.length := by simp at hge; omega
    rw [hie, List.take_length] at hall
    rw [hie, List.take_of_length_le (by simp)] at hst
    refine (hr.ext hE).len_r (does_le ⟨hE, cd_of ?_⟩)
    simp only [decide_eq_true_eq]
    exact ⟨fun h => ⟨hall, hst, by omega⟩, fun h => by have := h.2.2; omega⟩
section
variable {w0 w : World} {dv iv pv : Value} {o : Ob} {b : Nat} {k : Value → World → Prop}
/-- fields of an object in memory -/
structure OFldR (W : World) (b : Nat) (dv iv pv : Value) (o : Ob) : Prop where
  blk : OBlk W b 38 dv iv pv o
  ob : IsOb W dv iv pv o
theorem OFldR.ext {W W' : World} {b : Nat} {dv iv pv : Value} {o : Ob} (h : OFldR W b dv iv pv o) (hE : Ext W W') : OFldR W' b dv iv pv o := ⟨h.blk.ext hE, h.ob.ext hE⟩
theorem OFldR.f0 (h : OFldR w b dv iv pv o) (hk : k (.int .i64 o.kind) w) : Does Try.prog (Instr.fieldAt 38 (.pointer (some ⟨b, 0, none⟩)) 0) w fun t w => Does Try.prog (Instr.loadAt 3 t) w k := does_of (run_field_r b w).1 (does_load1 agg_i64 h.blk.cell.1 hk)
theorem OFldR.f1 (h : OFldR w b dv iv pv o) (hk : k dv w) : Does Try.prog (Instr.fieldAt 38 (.pointer (some ⟨b, 0, none⟩)) 1) w fun t w => Does Try.prog (Instr.loadAt 34 t) w k := does_of (run_field_r b w).2.1 (does_load1 agg_bytes h.blk.cell.2.1 hk)
theorem OFldR.f2 (h : OFldR w b dv iv pv o) (hk : k iv w) : Does Try.prog (Instr.fieldAt 38 (.pointer (some ⟨b, 0, none⟩)) 2) w fun t w => Does Try.prog (Instr.loadAt 36 t) w k := does_of (run_field_r b w).2.2.1 (does_load1 agg_items_r h.blk.cell.2.2.1 hk)
theorem OFldR.f3 (h : OFldR w b dv iv pv o) (hk : k (.string o.tree) w) : Does Try.prog (Instr.fieldAt 38 (.pointer (some ⟨b, 0, none⟩)) 3) w fun t w => Does Try.prog (Instr.loadAt 9 t) w k := does_of (run_field_r b w).2.2.2.1 (does_load1 agg_str h.blk.cell.2.2.2.1 hk)
theorem OFldR.f4 (h : OFldR w b dv iv pv o) (hk : k pv w) : Does Try.prog (Instr.fieldAt 38 (.pointer (some ⟨b, 0, none⟩)) 4) w fun t w => Does Try.prog (Instr.loadAt 23 t) w k := does_of (run_field_r b w).2.2.2.2.1 (does_load1 agg_strsl h.blk.cell.2.2.2.2.1 hk)
theorem OFldR.f5 (h : OFldR w b dv iv pv o) (hk : k (.int .i64 o.stamp) w) : Does Try.prog (Instr.fieldAt 38 (.pointer (some ⟨b, 0, none⟩)) 5) w fun t w => Does Try.prog (Instr.loadAt 3 t) w k := does_of (run_field_r b w).2.2.2.2.2.1 (does_load1 agg_i64 h.blk.cell.2.2.2.2.2.1 hk)
theorem OFldR.f6 (h : OFldR w b dv iv pv o) (hk : k (.int .i64 o.author) w) : Does Try.prog (Instr.fieldAt 38 (.pointer (some ⟨b, 0, none⟩)) 6) w fun t w => Does Try.prog (Instr.loadAt 3 t) w k := does_of (run_field_r b w).2.2.2.2.2.2.1 (does_load1 agg_i64 h.blk.cell.2.2.2.2.2.2.1 hk)
theorem OFldR.f7 (h : OFldR w b dv iv pv o) (hk : k (.string o.msg) w) : Does Try.prog (Instr.fieldAt 38 (.pointer (some ⟨b, 0, none⟩)) 7) w fun t w => Does Try.prog (Instr.loadAt 9 t) w k := does_of (run_field_r b w).2.2.2.2.2.2.2 (does_load1 agg_str h.blk.cell.2.2.2.2.2.2.2.1 hk)
/-- an argument, laid into memory -/
theorem box_r (h : IsOb w dv iv pv o) (hk : ∀ W, Ext w W → OFldR W w.heap.size dv iv pv o → k (.pointer (some ⟨w.heap.size, 0, none⟩)) W) : Does Try.prog (Instr.box 38 (ObV dv iv pv o)) w k :=
  does_of (run_box_r h w) (hk _ (ext_any _ w) ⟨OBlk.new w _ dv iv pv o, h.ext (ext_any _ w)⟩)
end
theorem rvalids_spec {w : World} {v : Value} {l : List ByteArray} (hr : Row w v (strsV l)) (hs : ∀ x ∈ l, Short x) : Call Try.prog 100 #[v] w fun r w' => Ext w w' ∧ r = .bool (cd (∀ x ∈ l, Valid x)) := by
  apply vc100
  unfold V100
  have hle := hr.len_le
  simp at hle
  refine rounds1 (fun i : Nat => .int .i64 i) (fun i W => i ≤ l.length ∧ Ext w W ∧ (∀ x ∈ l.take i, Valid x)) (fun i _ => l.length - i) 0 rfl ⟨Nat.zero_le _, Ext.refl _, by simp⟩ ?_
  rintro next i W ⟨hi, hE, hall⟩ hnext _
  refine (hr.ext hE).len u_strs (does_lt (condP_of (fun hlt => ?_) fun hge => ?_))
  · have hlt' : i < l.length := by simpa using hlt
    refine (hr.ext hE).index u_strs sz_str (by simpa using hlt') fun p hp => does_load1 agg_str hp ?_
    rw [strsV_get hlt']
    refine (rvalid_cd (hs _ (List.getElem_mem hlt'))).mono fun u W1 ⟨hE1, hu⟩ => ?_
    subst hu
    refine does_of (run_not W1) (condP_of (fun hb => ⟨hE.trans hE1, cd_of (b := false) ⟨(fun h => by cases h), fun hI => ?_⟩⟩) fun hok => ?_)
    · exfalso
      simp only [Bool.not_eq_true', cd_false] at hb
      exact hb (hI _ (List.getElem_mem hlt'))
    · simp only [Bool.not_eq_false', cd_iff] at hok
      exact does_add (by omega) (by omega) (hnext (i + 1) _ W1 (by simp) ⟨hlt', hE.trans hE1, forall_take_succ hlt' hall hok⟩ (by omega))
  · have hie : i = l.length := by simp at hge; omega
    rw [hie, List.take_length] at hall
    exact ⟨hE, cd_of (b := true) ⟨fun _ => hall, fun _ => rfl⟩⟩
theorem rises_spec {w : World} {v : Value} {l : List ByteArray} (hr : Row w v (strsV l)) : Call Try.prog 12 #[v] w fun r w' => Ext w w' ∧ r = .bool (cd (Strict l)) := by
  apply vc12
  unfold V12
  have hle := hr.len_le
  simp at hle
  refine rounds1 (fun i : Nat => .int .i64 ((i + 1 : Nat) : Int)) (fun i W => (i + 1 ≤ l.length ∨ i = 0) ∧ Ext w W ∧ Strict (l.take (i + 1))) (fun i _ => l.length - i) 0 rfl ⟨.inr rfl, Ext.refl _, by cases l <;> simp⟩ ?_
  rintro next i W ⟨hi, hE, hst⟩ hnext _
  refine (hr.ext hE).len u_strs (does_lt (condP_of (fun hlt => ?_) fun hge => ?_))
  · have hlt' : i + 1 < l.length := by simp at hlt; omega
    refine q12_4 (Ext W) (Ext.drawn _) fun _ => ?_
    have hrW := hr.ext hE
    refine q_index hrW u_strs sz_str (i := i + 1) (by simpa using hlt') fun p hp => q_load agg_str hp ?_
    refine qx (fun W => run_sub (by omega) (by omega) W) ?_
    rw [show (((i + 1 : Nat) : Int) - 1) = ((i : Nat) : Int) by omega]
    refine q_index hrW u_strs sz_str (i := i) (by simp; omega) fun p2 hp2 => q_load agg_str hp2 ?_
    rw [strsV_get hlt', strsV_get (by omega)]
    refine qx run_leS fun W1 hW1 _ => ?_
    refine condP_of (fun hb => ⟨hE.trans hW1, cd_of (b := false) ⟨(fun h => by cases h), fun hI => ?_⟩⟩) fun hok => ?_
    · exfalso
      have := strict_at hI hlt' (by omega)
      simp only [Nat.add_sub_cancel] at this
      rw [this] at hb
      cases hb
    · simp only [Bool.not_eq_false'] at hok
      exact does_add (by omega) (by omega) (hnext (i + 1) _ W1 (by simp) ⟨.inl (by omega), hE.trans hW1, strict_take_succ hlt' hst fun h0 => by simpa using hok⟩ (by omega))
  · have hie : l.length ≤ i + 1 := by simp at hge; omega
    rw [List.take_of_length_le hie] at hst
    exact ⟨hE, cd_of (b := true) ⟨fun _ => hst, fun _ => rfl⟩⟩
set_option maxHeartbeats 1000000 in
theorem rmay_spec {w : World} {dv iv pv : Value} {o : Ob} (h : IsOb w dv iv pv o) (hM : Modest o) : Call Try.prog 76 #[ObV dv iv pv o] w fun r w' => Ext w w' ∧ r = .bool (cd (May o)) := by
  apply vc76
  unfold V76
  refine box_r h fun W hE hF => ?_
  refine hF.f3 (does_of (run_neS W) ?_)
  refine or_join (decide ((0 : Int) < ((o.parents.length : Nat) : Int))) (fun _ j hj => hF.f4 (hF.ob.pars.len u_strs (does_gt (by simpa using hj)))) ?_
  refine or_join (!decide (o.stamp = 0)) (fun _ j hj => hF.f5 (does_of (run_neI W) hj)) ?_
  refine or_join (!decide (o.author = 0)) (fun _ j hj => hF.f6 (does_of (run_neI W) hj)) ?_
  refine or_join (!decide (o.msg = { data := #[] })) (fun _ j hj => hF.f7 (does_of (run_neS W) hj)) ?_
  have hnc : ((((!decide (o.tree = { data := #[] }) || decide ((0 : Int) < ((o.parents.length : Nat) : Int))) || !decide (o.stamp = 0)) || !decide (o.author = 0)) || !decide (o.msg = { data := #[] })) = !cd (NoCommit o) := by
    have h5 : ((((decide (o.tree = { data := #[] }) && decide (o.parents.length = 0)) && decide (o.stamp = 0)) && decide (o.author = 0)) && decide (o.msg = { data := #[] })) = cd (NoCommit o) := by
      apply iff_cd
      simp only [Bool.and_eq_true, decide_eq_true_eq, NoCommit, noS]
      constructor
      · rintro ⟨⟨⟨⟨h1, h2⟩, h3⟩, h4⟩, h5⟩; exact ⟨h1, h2, h3, h4, h5⟩
      · rintro ⟨h1, h2, h3, h4, h5⟩; exact ⟨⟨⟨⟨h1, h2⟩, h3⟩, h4⟩, h5⟩
    rw [← h5]
    have h6 : decide ((0 : Int) < ((o.parents.length : Nat) : Int)) = !decide (o.parents.length = 0) := by
      rw [Bool.eq_iff_iff]
      simp only [Bool.not_eq_true', decide_eq_true_eq, decide_eq_false_iff_not]
      omega
    rw [h6]
    simp only [Bool.not_and]
  rw [hnc]
  refine hF.f0 (does_of (run_eqI W) (condP_of (fun hk => ?_) fun hk1 => ?_))
  · have hk : o.kind = 1 := by simpa using hk
    refine hF.f1 (hF.ob.data.len u_bytes (does_le ?_))
    refine and_join (decide (((o.items.length : Nat) : Int) = 0)) (fun _ j hj => hF.f2 (hF.ob.items.len_r (does_of (run_eqI W) hj))) ?_
    refine and_join (cd (NoCommit o)) (fun _ j hj => does_of (run_not W) (by simpa using hj)) ⟨hE, cd_of ?_⟩
    simp only [Bool.and_eq_true, decide_eq_true_eq, cd_iff, bytesV_length, May]
    constructor
    · rintro ⟨⟨h1, h2⟩, h3⟩; exact .inl ⟨hk, by omega, by omega, h3⟩
    · rintro (⟨_, h1, h2, h3⟩ | ⟨h, _⟩ | ⟨h, _⟩)
      · exact ⟨⟨by omega, by omega⟩, h3⟩
      · omega
      · omega
  have hk1 : o.kind ≠ 1 := by simpa using hk1
  refine does_of (run_eqI W) (condP_of (fun hk => ?_) fun hk2 => ?_)
  · have hk : o.kind = 2 := by simpa using hk
    refine hF.f1 (hF.ob.data.len u_bytes (does_of (run_eqI W) ?_))
    refine and_joinW (fun W' => Ext W W') (cd (ItemsOk o.items)) (Ext.refl _) (fun _ j hj => hF.f2 ((ritems_spec hF.ob.items hM.items).mono fun u W' ⟨g1, g2⟩ => by rw [g2]; exact hj _ g1)) fun W' hE' => ?_
    refine and_join (cd (NoCommit o)) (fun _ j hj => does_of (run_not W') (by simpa using hj)) ⟨hE.trans hE', cd_of ?_⟩
    simp only [Bool.and_eq_true, decide_eq_true_eq, cd_iff, bytesV_length, May]
    constructor
    · rintro ⟨⟨h1, h2⟩, h3⟩; exact .inr (.inl ⟨hk, by omega, h2, h3⟩)
    · rintro (⟨h, _⟩ | ⟨_, h1, h2, h3⟩ | ⟨h, _⟩)
      · omega
      · exact ⟨⟨by omega, h2⟩, h3⟩
      · omega
  have hk2 : o.kind ≠ 2 := by simpa using hk2
  refine does_of (run_eqI W) (condP_of (fun hk => ?_) fun hk3 => ?_)
  · have hk : o.kind = 3 := by simpa using hk
    have hd1 := hM.dl
    have hd2 := hM.il
    refine hF.f1 (hF.ob.data.len u_bytes (hF.f2 (hF.ob.items.len_r ?_)))
    rw [bytesV_length]
    refine does_add (by omega) (by omega) (does_of (run_eqI W) ?_)
    refine and_joinW (fun W' => Ext W W') (cd (Valid o.tree)) (Ext.refl _) (fun _ j hj => hF.f3 ((rvalid_cd hM.tree).mono fun u W' ⟨g1, g2⟩ => by rw [g2]; exact hj _ g1)) fun W1 hE1 => ?_
    have hF1 := hF.ext hE1
    refine and_join (decide (((o.parents.length : Nat) : Int) ≤ 2)) (fun _ j hj => hF1.f4 (hF1.ob.pars.len u_strs (does_le (by simpa using hj)))) ?_
    refine and_joinW (fun W' => Ext W W') (cd (∀ x ∈ o.parents, Valid x)) hE1 (fun _ j hj => hF1.f4 ((rvalids_spec hF1.ob.pars hM.pars).mono fun u W' ⟨g1, g2⟩ => by rw [g2]; exact hj _ (hE1.trans g1))) fun W2 hE2 => ?_
    have hF2 := hF.ext hE2
    refine and_joinW (fun W' => Ext W W') (cd (Strict o.parents)) hE2 (fun _ j hj => hF2.f4 ((rises_spec hF2.ob.pars).mono fun u W' ⟨g1, g2⟩ => by rw [g2]; exact hj _ (hE2.trans g1))) fun W3 hE3 => ?_
    have hF3 := hF.ext hE3
    refine and_join (decide (0 ≤ o.stamp)) (fun _ j hj => hF3.f5 (does_ge hj)) ?_
    refine and_join (decide (o.stamp ≤ 1099511627776)) (fun _ j hj => hF3.f5 (does_le hj)) ?_
    refine and_join (decide (0 ≤ o.author)) (fun _ j hj => hF3.f6 (does_ge hj)) ?_
    refine and_join (decide (o.author ≤ 255)) (fun _ j hj => hF3.f6 (does_le hj)) ?_
    refine and_join (cd (MsgOk o.msg)) (fun _ j hj => hF3.f7 ((rmsg_cd hM.msg).mono fun u W' ⟨g1, g2⟩ => by rw [g2, g1]; exact hj)) ⟨hE.trans hE3, cd_of ?_⟩
    simp only [Bool.and_eq_true, decide_eq_true_eq, cd_iff, May]
    constructor
    · rintro ⟨⟨⟨⟨⟨⟨⟨⟨⟨h1, h2⟩, h3⟩, h4⟩, h5⟩, h6⟩, h7⟩, h8⟩, h9⟩, h10⟩
      exact .inr (.inr ⟨hk, by omega, by omega, h2, ⟨h4, h5, by omega⟩, h6, h7, h8, h9, h10⟩)
    · rintro (⟨h, _⟩ | ⟨h, _⟩ | ⟨_, h1, h2, h3, ⟨h4, h5, h6⟩, h7, h8, h9, h10, h11⟩)
      · omega
      · omega
      · exact ⟨⟨⟨⟨⟨⟨⟨⟨⟨by omega, h3⟩, by omega⟩, h4⟩, h5⟩, h7⟩, h8⟩, h9⟩, h10⟩, h11⟩
  · have hk3 : o.kind ≠ 3 := by simpa using hk3
    refine ⟨hE, cd_of ⟨(fun h => by cases h), fun h => ?_⟩⟩
    rcases h with ⟨h, _⟩ | ⟨h, _⟩ | ⟨h, _⟩
    · exact absurd h hk1
    · exact absurd h hk2
    · exact absurd h hk3
end Go.Proofs.Ytcncgkkilgmphaa
