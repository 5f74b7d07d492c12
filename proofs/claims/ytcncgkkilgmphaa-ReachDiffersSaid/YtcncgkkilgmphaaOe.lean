/-
  Contracts: may it be an object (package obj)?
-/
import Derived.Test.YtcncgkkilgmphaaOd
set_option linter.unusedVariables false
set_option linter.unusedSimpArgs false
namespace Go.Proofs.Ytcncgkkilgmphaa
open Go Go.RowKit

noncomputable def cd (p : Prop) : Bool := @decide p (Classical.propDecidable p)
theorem cd_iff {p : Prop} : cd p = true ↔ p := by unfold cd; exact @decide_eq_true_iff p (Classical.propDecidable p)
theorem cd_false {p : Prop} : cd p = false ↔ ¬ p := Bool.eq_false_iff.trans (not_congr cd_iff)
theorem iff_cd {b : Bool} {p : Prop} (h : b = true ↔ p) : b = cd p := by
  cases hb : b
  · exact (cd_false.2 fun hp => by rw [h.2 hp] at hb; cases hb).symm
  · exact (cd_iff.2 (h.1 hb)).symm
theorem cd_of {b : Bool} {p : Prop} (h : b = true ↔ p) : Value.bool b = .bool (cd p) := by rw [iff_cd h]
theorem name_cd {w : World} {s : ByteArray} (hs : (bs s).length ≤ 1099511627776) : Call Try.prog 106 #[.string s] w fun v w' => w' = w ∧ v = .bool (cd (NameOk s)) :=
  (name_spec hs).mono fun v w' ⟨h1, b, h2, h3⟩ => ⟨h1, by rw [h2]; exact cd_of h3⟩
theorem rname_cd {w : World} {s : ByteArray} (hs : (bs s).length ≤ 1099511627776) : Call Try.prog 114 #[.string s] w fun v w' => w' = w ∧ v = .bool (cd (NameOk s)) :=
  (rname_spec hs).mono fun v w' ⟨h1, b, h2, h3⟩ => ⟨h1, by rw [h2]; exact cd_of h3⟩
theorem msg_cd {w : World} {s : ByteArray} (hs : (bs s).length ≤ 1099511627776) : Call Try.prog 89 #[.string s] w fun v w' => w' = w ∧ v = .bool (cd (MsgOk s)) :=
  (msg_spec hs).mono fun v w' ⟨h1, b, h2, h3⟩ => ⟨h1, by rw [h2]; exact cd_of h3⟩
theorem rmsg_cd {w : World} {s : ByteArray} (hs : (bs s).length ≤ 1099511627776) : Call Try.prog 101 #[.string s] w fun v w' => w' = w ∧ v = .bool (cd (MsgOk s)) :=
  (rmsg_spec hs).mono fun v w' ⟨h1, b, h2, h3⟩ => ⟨h1, by rw [h2]; exact cd_of h3⟩
theorem valid_cd {w : World} {s : ByteArray} (hs : (bs s).length ≤ 1099511627776) : Call Try.prog 87 #[.string s] w fun v w' => Ext w w' ∧ v = .bool (cd (Valid s)) :=
  (valid_spec hs).mono fun v w' ⟨h1, b, h2, h3⟩ => ⟨h1, by rw [h2]; exact cd_of h3⟩
theorem rvalid_cd {w : World} {s : ByteArray} (hs : (bs s).length ≤ 1099511627776) : Call Try.prog 99 #[.string s] w fun v w' => Ext w w' ∧ v = .bool (cd (Valid s)) :=
  (rvalid_spec hs).mono fun v w' ⟨h1, b, h2, h3⟩ => ⟨h1, by rw [h2]; exact cd_of h3⟩
theorem or_and {b1 pos le : Bool} {X4 : VF 1 → Prop} {X5 : World → VF 1 → Prop} {K : Value → World → Prop} {w1 : World} (h4 : b1 = false → ∀ j : VF 1, j (.bool pos) w1 → X4 j) (h5 : b1 = false → pos = true → ∀ j : VF 1, j (.bool le) w1 → X5 w1 j) (hK : K (.bool (b1 || (pos && le))) w1) :
    JoinP 1 (fun j4 => GuardP (.bool b1) false (X4 j4) (j4 undef w1)) (fun t35 w => ∀ _ : Nat → Value, JoinP 1 (fun j5 => GuardP t35 true (X5 w j5) (j5 undef w)) (fun t44 w => ∀ _ : Nat → Value,
      JoinP 1 (fun j6 => GuardP (.bool b1) false (PickP t35 t44 (.bool false) fun t45 => j6 t45 w) (j6 undef w)) (fun t45 w => ∀ _ : Nat → Value, PickP (.bool b1) (.bool true) t45 fun u => K u w))) := by
  cases b1 with
  | true =>
    refine join1 (fun t W => W = w1 ∧ t = undef) ?_ (fun j hj => by rw [guardP_tf]; exact hj _ _ ⟨rfl, rfl⟩)
    rintro t W ⟨rfl, rfl⟩ _
    refine join1 (fun t W' => W' = W) ?_ (fun j hj => by rw [guardP_undef]; exact hj _ _ rfl)
    rintro t W' rfl _
    refine join1 (fun t W => W = W') ?_ (fun j hj => by rw [guardP_tf]; exact hj _ _ rfl)
    rintro t W rfl _
    rw [pickP_true]
    exact hK
  | false =>
    refine join1 (fun t W => W = w1 ∧ t = .bool pos) ?_ (fun j hj => by rw [guardP_ff]; exact h4 rfl j (hj _ _ ⟨rfl, rfl⟩))
    rintro t W ⟨rfl, rfl⟩ _
    cases pos with
    | true =>
      refine join1 (fun t W' => W' = W ∧ t = .bool le) ?_ (fun j hj => by rw [guardP_tt]; exact h5 rfl rfl j (hj _ _ ⟨rfl, rfl⟩))
      rintro t W' ⟨rfl, rfl⟩ _
      refine join1 (fun t W => W = W' ∧ t = .bool le) ?_ (fun j hj => by rw [guardP_ff, pickP_true]; exact hj _ _ ⟨rfl, rfl⟩)
      rintro t W ⟨rfl, rfl⟩ _
      rw [pickP_false]
      exact hK
    | false =>
      refine join1 (fun t W' => W' = W) ?_ (fun j hj => by rw [guardP_ft]; exact hj _ _ rfl)
      rintro t W' rfl _
      refine join1 (fun t W => W = W' ∧ t = .bool false) ?_ (fun j hj => by rw [guardP_ff, pickP_false]; exact hj _ _ ⟨rfl, rfl⟩)
      rintro t W ⟨rfl, rfl⟩ _
      rw [pickP_false]
      exact hK
theorem strict_last {a : List ByteArray} {z x : ByteArray} (ha : Strict (a ++ [z])) (h : blt z x = true) : Strict (a ++ [z] ++ [x]) := by
  refine strict_snoc ha fun y hy => ?_
  rcases List.mem_append.1 hy with hy | hy
  · exact blt_trans ((strict_append.1 ha).2.2 y hy z (by simp)) h
  · rw [List.mem_singleton.1 hy]; exact h
theorem strict_take_succ {l : List ByteArray} {i : Nat} (hi : i < l.length) (hs : Strict (l.take i)) (h : ∀ h0 : 0 < i, blt (l[i - 1]'(by omega)) l[i] = true) : Strict (l.take (i + 1)) := by
  rw [List.take_succ_eq_append_getElem hi]
  rcases Nat.eq_zero_or_pos i with h0 | h0
  · subst h0; exact List.pairwise_singleton _ _
  · have e : l.take i = l.take (i - 1) ++ [l[i - 1]'(by omega)] := by
      rw [← List.take_succ_eq_append_getElem (by omega)]
      congr 1
      omega
    rw [e] at hs ⊢
    exact strict_last hs (h h0)
theorem strict_at {l : List ByteArray} {i : Nat} (hs : Strict l) (hi : i < l.length) (h0 : 0 < i) : blt (l[i - 1]'(by omega)) l[i] = true :=
  List.pairwise_iff_getElem.1 hs (i - 1) i (by omega) hi (by omega)
theorem agg_i64 (w : World) : (isAgg 3).run Try.prog w = .ok false w := by kernel_rfl
def Short (s : ByteArray) : Prop := (bs s).length ≤ 1099511627776
theorem mayItems_spec {w : World} {v : Value} {l : List It} (hr : IR w v l) (hs : ∀ x ∈ l, Short x.name ∧ Short x.id) : Call Try.prog 86 #[v] w fun r w' => Ext w w' ∧ r = .bool (cd (ItemsOk l)) := by
  apply vc86
  unfold V86
  have hle := hr.le
  refine hr.len_o ?_
  refine rounds1 (fun i : Nat => .int .i64 i) (fun i W => i ≤ l.length ∧ Ext w W ∧ (∀ x ∈ l.take i, ItemOk x) ∧ Strict ((l.map (·.name)).take i)) (fun i _ => l.length - i) 0 rfl ⟨Nat.zero_le _, Ext.refl _, by simp, by simp⟩ ?_
  rintro next i W ⟨hi, hE, hall, hst⟩ hnext _
  refine does_lt (condP_of (fun hlt => ?_) fun hge => ?_)
  · have hlt' : i < l.length := by simpa using hlt
    have hx := List.getElem?_eq_getElem hlt'
    obtain ⟨p, hp, hidx, c0, c1, c2⟩ := hr.at_o hx
    obtain ⟨s1, s2⟩ := hs _ (List.getElem_mem hlt')
    refine does_of (hidx .i64 W) (does_of (run_loadI_o hp (hE.cell c0) (hE.cell c1) (hE.cell c2)) ?_)
    refine local_o fun W2 hE2 hb => ?_
    obtain ⟨d0, d1, d2⟩ := local_cells hb
    have hsp : (⟨W.heap.size, 0, none⟩ : Addr).spot = none := rfl
    refine q86_4 (Ext W2) (Ext.drawn _) fun _ => ?_
    have fI := fun W => run_fieldI_o hsp W
    have l0 : ∀ W3, Ext W2 W3 → (Instr.loadAt 3 (.pointer (some ⟨W.heap.size, 0, none⟩))).run Try.prog W3 = .ok (.int .i64 l[i].mode) W3 := fun W3 h => run_load1 agg_i64 (h.cell d0)
    have l1 : ∀ W3, Ext W2 W3 → (Instr.loadAt 9 (.pointer (some ((⟨W.heap.size, 0, none⟩ : Addr).add 1)))).run Try.prog W3 = .ok (.string l[i].name) W3 := fun W3 h => run_load1 agg_str (h.cell d1)
    have l2 : ∀ W3, Ext W2 W3 → (Instr.loadAt 9 (.pointer (some ((⟨W.heap.size, 0, none⟩ : Addr).add 2)))).run Try.prog W3 = .ok (.string l[i].id) W3 := fun W3 h => run_load1 agg_str (h.cell d2)
    refine qx (fun W => (fI W).1) (qc l0 (qx run_lt ?_))
    refine or_join (decide ((4 : Int) < l[i].mode)) (fun _ j hj => qx (fun W => (fI W).1) (qc l0 (qx run_gt hj))) ?_
    refine or_join (!cd (NameOk l[i].name)) (fun _ j hj => qx (fun W => (fI W).2.1) (qc l1 (qcall_of (.bool (cd (NameOk l[i].name))) (fun W3 h => (name_cd s1).mono fun v W4 ⟨h1, h2⟩ => ⟨h2, by rw [h1]; exact h⟩) (qx run_not hj)))) ?_
    refine or_join (!cd (Valid l[i].id)) (fun _ j hj => qx (fun W => (fI W).2.2) (qc l2 (qcall_of (.bool (cd (Valid l[i].id))) (fun W3 h => (valid_cd s2).mono fun v W4 ⟨h1, h2⟩ => ⟨h2, Ext.trans h h1⟩) (qx run_not hj)))) ?_
    refine or_and (pos := decide ((0 : Int) < i)) (le := !blt ((l.map (·.name)).getD (i - 1) noS) l[i].name) (fun _ j hj => qx run_gt hj) (fun _ hpos j hj => ?_) ?_
    · have hi0 : 0 < i := by simpa using hpos
      obtain ⟨p', hp', hidx', c0', c1', c2'⟩ := hr.at_o (i := i - 1) (x := l[i - 1]) (List.getElem?_eq_getElem (by omega))
      refine qx (fun W => (fI W).2.1) (qc l1 (qx (fun W => run_sub (by omega) (by omega) W) ?_))
      rw [show ((i : Int) - 1) = ((i - 1 : Nat) : Int) by omega]
      refine qx (hidx' .i64) (qx (fun W => (run_fieldI_o hp' W).2.1) (qc (fun W3 h => run_load1 agg_str (((hE.trans hE2).trans h).cell c1')) (qx run_leS ?_)))
      have : (l.map (·.name)).getD (i - 1) noS = l[i - 1].name := by simp [List.getD, show i - 1 < l.length by omega]
      rw [this] at hj
      exact hj
    · intro W3 hE3 _
      have hEW := (hE.trans hE2).trans hE3
      have hmem := List.getElem_mem hlt'
      have hget : ∀ h0 : 0 < i, (l.map (·.name)).getD (i - 1) noS = (l.map (·.name))[i - 1]'(by simp; omega) := fun h0 => by simp [List.getD, show i - 1 < l.length by omega]
      refine condP_of (fun hb => ⟨hEW, cd_of (b := false) ⟨(fun h => by cases h), fun hI => ?_⟩⟩) fun hok => ?_
      · exfalso
        obtain ⟨⟨m1, m2⟩, m3, m4⟩ := hI.1 _ hmem
        simp only [Bool.or_eq_true, Bool.and_eq_true, Bool.not_eq_true', decide_eq_true_eq, cd_false] at hb
        rcases hb with (((hb | hb) | hb) | hb) | ⟨hb1, hb2⟩
        · omega
        · omega
        · exact hb m3
        · exact hb m4
        · have h0 : 0 < i := by omega
          have := strict_at hI.2.1 (i := i) (by simpa using hlt') h0
          rw [hget h0] at hb2
          simp only [List.getElem_map] at this hb2
          rw [this] at hb2
          cases hb2
      · simp only [Bool.or_eq_false_iff, Bool.and_eq_false_iff, Bool.not_eq_false', decide_eq_false_iff_not, cd_iff] at hok
        obtain ⟨⟨⟨⟨k1, k2⟩, k3⟩, k4⟩, k5⟩ := hok
        refine does_add (by omega) (by omega) (hnext (i + 1) _ W3 (by simp) ⟨hlt', hEW, forall_take_succ hlt' hall ⟨⟨by omega, by omega⟩, k3, k4⟩, strict_take_succ (by simpa using hlt') hst fun h0 => ?_⟩ (by omega))
        rcases k5 with k5 | k5
        · omega
        · rw [hget h0] at k5
          simpa using k5
  · have hie : i = l.length := by simp at hge; omega
    rw [hie, List.take_length] at hall
    rw [hie, List.take_of_length_le (by simp)] at hst
    refine (hr.ext hE).len_o (does_le ⟨hE, cd_of ?_⟩)
    simp only [decide_eq_true_eq]
    exact ⟨fun h => ⟨hall, hst, by omega⟩, fun h => by have := h.2.2; omega⟩
end Go.Proofs.Ytcncgkkilgmphaa
