/-
  Contracts: slices.BinarySearch over texts; wire.Merge.
  Contract: reach.Diff.
  The law ReachDiffers, its function: it returns true, and nothing that was there has turned.
-/
import Derived.Test.YtcncgkkilgmphaaCg
import Derived.Test.YtcncgkkilgmphaaDi
import Derived.Test.YtcncgkkilgmphaaH3
set_option linter.unusedVariables false
set_option linter.unusedSimpArgs false
namespace Go.Proofs.Ytcncgkkilgmphaa
open Go Go.RowKit

theorem run_toU2 (n : Nat) (h : (n : Int) ≤ 9223372036854775807) (w : World) : (convert 3 112 (.int .i64 (n : Int))).run Try.prog w = .ok (.int .u64 (n : Int)) w := by
  simp [convert, go_sem]
  exact IntWalk.u64_in _ (by omega)
theorem run_toI2 (n : Nat) (h : (n : Int) ≤ 9223372036854775807) (w : World) : (convert 112 3 (.int .u64 (n : Int))).run Try.prog w = .ok (.int .i64 (n : Int)) w := by
  simp [convert, go_sem]
  exact IntWalk.i64_in _ (by omega)
theorem run_half (n : Nat) (w : World) : (binOp .shr 112 (.int .u64 (n : Int)) (.int .u64 1)).run Try.prog w = .ok (.int .u64 ((n / 2 : Nat) : Int)) w := by
  simp [go_sem]
theorem isNaN_spec {a : ByteArray} {w : World} : Call Try.prog 105 #[.string a] w fun v w' => v = .bool false ∧ w' = w := by
  apply vc105
  unfold V105
  refine does_of (run_neS w) ⟨?_, rfl⟩
  simp
theorem isNaN2_spec {a : ByteArray} {w : World} : Call Try.prog 84 #[.string a] w fun v w' => v = .bool false ∧ w' = w := by
  apply vc84
  unfold V84
  refine does_of (run_neS w) ⟨?_, rfl⟩
  simp
theorem less_spec {a b : ByteArray} {w : World} : Call Try.prog 83 #[.string a, .string b] w fun v w' => v = .bool (blt a b) ∧ w' = w := by
  apply vc83
  unfold V83
  refine isNaN_spec.mono fun v w' ⟨hv, hw⟩ => ?_
  subst hv hw
  refine and_join (b1 := false) false (fun h => by cases h) ?_
  refine or_join (b1 := false) (blt a b) (fun _ j hj => does_of (run_ltS w') hj) ⟨by simp, rfl⟩
structure BsSt where
  i : Nat
  j : Nat
theorem bsearch_found {xs : List ByteArray} {k : ByteArray} {i : Nat} (hs : Sorted xs) (hlo : ∀ m (h : m < xs.length), m < i → blt xs[m] k = true) (hhi : ∀ m (h : m < xs.length), i ≤ m → blt xs[m] k = false) :
    memB k xs = true ↔ ∃ h : i < xs.length, xs[i] = k := by
  rw [memB_iff]
  constructor
  · intro hk
    obtain ⟨m, hm, rfl⟩ := List.getElem_of_mem hk
    have him : i ≤ m := by
      rcases Nat.lt_or_ge m i with h | h
      · have := hlo m hm h
        rw [blt_irrefl] at this
        cases this
      · exact h
    refine ⟨by omega, ?_⟩
    have h1 := hhi i (by omega) (Nat.le_refl _)
    have h2 := sorted_get hs him hm
    exact blt_total h1 h2
  · rintro ⟨h, rfl⟩
    exact List.getElem_mem h
theorem bsearch_spec {w : World} {v : Value} {xs : List ByteArray} {k : ByteArray} (hr : Row w v (strsV xs)) (hs : Sorted xs) (hl : xs.length ≤ 1099511627776) :
    Call Try.prog 68 #[v, .string k] w fun r w' => w' = w ∧ ∃ i : Nat, r = .tuple #[.int .i64 i, .bool (memB k xs)] := by
  apply vc68
  unfold V68
  refine hr.len u_strs ?_
  rw [strsV_length]
  refine rounds2 (σ := BsSt) (fun s => .int .i64 ((s.i : Nat) : Int)) (fun s => .int .i64 ((s.j : Nat) : Int)) (fun s W => W = w ∧ s.i ≤ s.j ∧ s.j ≤ xs.length ∧ (∀ m (h : m < xs.length), m < s.i → blt xs[m] k = true) ∧ ∀ m (h : m < xs.length), s.j ≤ m → blt xs[m] k = false) (fun s _ => s.j - s.i) ⟨0, xs.length⟩ rfl rfl
    ⟨rfl, Nat.zero_le _, Nat.le_refl _, fun m _ h => by simp at h, fun m h h' => by simp at h'; omega⟩ ?_
  rintro next ⟨i, j⟩ W ⟨rfl, hij, hj, hlo, hhi⟩ hnext _
  simp only at hij hj hlo hhi ⊢
  refine does_lt (condP_of (fun hlt => ?_) fun hge => ?_)
  · have hlt : i < j := by simpa using hlt
    refine does_add (by omega) (by omega) ?_
    rw [show ((i : Nat) : Int) + ((j : Nat) : Int) = ((i + j : Nat) : Int) by omega]
    refine does_of (run_toU2 (i + j) (by omega) W) (does_of (run_half (i + j) W) (does_of (run_toI2 ((i + j) / 2) (by omega) W) ?_))
    have hm : (i + j) / 2 < xs.length := by omega
    refine hr.index u_strs sz_str (by rw [strsV_length]; exact hm) fun p hp => does_load1 agg_str hp ?_
    rw [strsV_get hm]
    refine less_spec.mono fun v W' ⟨hv, hW⟩ => ?_
    subst hv hW
    refine condP_of (fun hb => ?_) fun hb => ?_
    · refine does_add (by omega) (by omega) (hnext ⟨(i + j) / 2 + 1, j⟩ _ _ W' (by congr 1) rfl ⟨rfl, by simp only; omega, hj, fun m h hmi => ?_, hhi⟩ (by simp only; omega))
      simp only at hmi
      exact ble_lt_trans (sorted_get hs (show m ≤ (i + j) / 2 by omega) hm) hb
    · refine hnext ⟨i, (i + j) / 2⟩ _ _ W' rfl rfl ⟨rfl, by simp only; omega, by simp only; omega, hlo, fun m h hmi => ?_⟩ (by simp only; omega)
      simp only at hmi
      exact ble_trans hb (sorted_get hs hmi h)
  · have hij' : i = j := by simp at hge; omega
    subst hij'
    have hf := bsearch_found (i := i) hs hlo hhi
    refine does_lt ?_
    rcases Nat.lt_or_ge i xs.length with hil | hil
    · rw [show decide (((i : Nat) : Int) < ((xs.length : Nat) : Int)) = true by simp; omega]
      refine join1 (fun t W' => W' = W ∧ t = .bool (decide (xs[i] = k))) ?_ (fun j hj => ?_)
      rotate_left
      · rw [guardP_tt]
        refine hr.index u_strs sz_str (by rw [strsV_length]; exact hil) fun p hp => does_load1 agg_str hp ?_
        rw [strsV_get hil]
        exact does_of (run_eqS W) (hj _ _ ⟨rfl, rfl⟩)
      rintro t42 W' ⟨rfl, rfl⟩ _
      by_cases hk : xs[i] = k
      · have hmm : memB k xs = true := hf.2 ⟨hil, hk⟩
        rw [show decide (xs[i] = k) = true by simpa using hk]
        refine join1 (fun t W => W = W' ∧ t = undef) ?_ (fun j hj => by rw [guardP_tf]; exact hj _ _ ⟨rfl, rfl⟩)
        rintro t48 W2 ⟨rfl, rfl⟩ _
        refine join1 (fun t W => W = W2 ∧ t = undef) ?_ (fun j hj => by rw [guardP_undef]; exact hj _ _ ⟨rfl, rfl⟩)
        rintro t50 W2 ⟨rfl, rfl⟩ _
        refine join1 (fun t W => W = W2 ∧ t = undef) ?_ (fun j hj => by rw [guardP_tf]; exact hj _ _ ⟨rfl, rfl⟩)
        rintro t51 W2 ⟨rfl, rfl⟩ _
        refine join1 (fun t W => W = W2 ∧ t = .bool true) ?_ (fun j hj => by rw [guardP_tt, pickP_true]; exact hj _ _ ⟨rfl, rfl⟩)
        rintro t52 W2 ⟨rfl, rfl⟩ _
        rw [pickP_true, hmm]
        exact ⟨rfl, i, rfl⟩
      · have hmm : memB k xs = false := by
          cases h : memB k xs with
          | false => rfl
          | true => exact absurd (hf.1 h).2 hk
        rw [show decide (xs[i] = k) = false by simpa using hk]
        refine join1 (fun t W => W = W' ∧ t = .bool false) ?_ (fun j hj => ?_)
        rotate_left
        · rw [guardP_ff]
          refine hr.index u_strs sz_str (by rw [strsV_length]; exact hil) fun p hp => does_load1 agg_str hp ?_
          rw [strsV_get hil]
          refine isNaN2_spec.mono fun v W2 ⟨hv, hW⟩ => ?_
          subst hv hW
          exact hj _ _ ⟨rfl, rfl⟩
        rintro t48 W2 ⟨rfl, rfl⟩ _
        refine join1 (fun t W => W = W2 ∧ t = undef) ?_ (fun j hj => by rw [guardP_ft]; exact hj _ _ ⟨rfl, rfl⟩)
        rintro t50 W2 ⟨rfl, rfl⟩ _
        refine join1 (fun t W => W = W2 ∧ t = .bool false) ?_ (fun j hj => by rw [guardP_ff, pickP_false]; exact hj _ _ ⟨rfl, rfl⟩)
        rintro t51 W2 ⟨rfl, rfl⟩ _
        refine join1 (fun t W => W = W2 ∧ t = .bool false) ?_ (fun j hj => by rw [guardP_tt, pickP_false]; exact hj _ _ ⟨rfl, rfl⟩)
        rintro t52 W2 ⟨rfl, rfl⟩ _
        rw [pickP_true, hmm]
        exact ⟨rfl, i, rfl⟩
    · have hmm : memB k xs = false := by
        cases h : memB k xs with
        | false => rfl
        | true => have := (hf.1 h).1; omega
      rw [show decide (((i : Nat) : Int) < ((xs.length : Nat) : Int)) = false by simp; omega]
      refine join1 (fun t W' => W' = W ∧ t = undef) ?_ (fun j hj => by rw [guardP_ft]; exact hj _ _ ⟨rfl, rfl⟩)
      rintro t42 W2 ⟨rfl, rfl⟩ _
      refine join1 (fun t W => W = W2 ∧ t = undef) ?_ (fun j hj => by rw [guardP_undef]; exact hj _ _ ⟨rfl, rfl⟩)
      rintro t48 W2 ⟨rfl, rfl⟩ _
      refine join1 (fun t W => W = W2 ∧ t = undef) ?_ (fun j hj => by rw [guardP_undef]; exact hj _ _ ⟨rfl, rfl⟩)
      rintro t50 W2 ⟨rfl, rfl⟩ _
      refine join1 (fun t W => W = W2 ∧ t = undef) ?_ (fun j hj => by rw [guardP_undef]; exact hj _ _ ⟨rfl, rfl⟩)
      rintro t51 W2 ⟨rfl, rfl⟩ _
      refine join1 (fun t W => W = W2 ∧ t = undef) ?_ (fun j hj => by rw [guardP_ft]; exact hj _ _ ⟨rfl, rfl⟩)
      rintro t52 W2 ⟨rfl, rfl⟩ _
      rw [pickP_false, hmm]
      exact ⟨rfl, i, rfl⟩
theorem wmerge_spec {w : World} {a b : Value} {xs ys : List ByteArray} (ha : Row w a (strsV xs)) (hb : Row w b (strsV ys)) (hl : xs.length + ys.length ≤ 1099511627776) :
    Call Try.prog 65 #[a, b] w fun v w' => Own w' w.heap.size 9 v (strsV (usort (xs ++ ys))) ∧ Ext w w' := by
  apply vc65
  unfold V65
  refine (sort_spec _ (Nat.le_refl _) ha (by omega)).mono fun v1 w1 ⟨h1, e1⟩ => ?_
  refine (sort_spec _ (Nat.le_refl _) (hb.ext e1) (by omega)).mono fun v2 w2 ⟨h2, e2⟩ => ?_
  have l1 : (sortS xs).length = xs.length := (sortS_perm xs).length_eq
  have l2 : (sortS ys).length = ys.length := (sortS_perm ys).length_eq
  refine (merge_spec (h1.row.ext e2) h2.row (sortS_sorted _) (sortS_sorted _) (by omega)).mono fun v3 w3 ⟨h3, e3⟩ => ?_
  refine (compact_spec h3 (sortS_sorted _)).mono fun v4 w4 ⟨h4, h5, h6⟩ => ⟨?_, (e1.trans e2).trans (h6.ext e3 h3.ge)⟩
  rw [usort_congr (b := xs ++ ys) fun x => by simp [mem_sortS]] at h4
  exact h4.mono (e1.trans e2).size
end Go.Proofs.Ytcncgkkilgmphaa

set_option linter.unusedVariables false
set_option linter.unusedSimpArgs false
namespace Go.Proofs.Ytcncgkkilgmphaa
open Go Go.RowKit

theorem row_mod {W W' : World} {base : Nat} {e : TypeId} {v : Value} {xs : List Value} {g : Option Nat} (h : Own W base e v xs) (hm : Mod g W W') (hg : ∀ k, g = some k → k < base) : Own W' base e v xs := rowOwn_keep hm h hg
theorem diffFn_call {w : World} {tv : Value} {tb : Nat} {xs : List ByteArray} (hk : Kp tb #[tv] 23 w) (hr : Row w tv (strsV xs)) (hs : Sorted xs) (hl : xs.length ≤ 1099511627776) (k : ByteArray) :
    CallV Try.prog (.func (.func 67) #[] #[.pointer (some ⟨tb, 0, none⟩)]) #[.string k] w fun v w' => v = .bool (memB k xs) ∧ Ext w w' := by
  refine ⟨_, _, _, rfl, ?_⟩
  apply vc67
  unfold V67
  refine does_load1 agg_strsl (hk.cell rfl) ((bsearch_spec hr hs hl).mono fun r w' ⟨hw, i, hre⟩ => ?_)
  subst hw hre
  exact ex2a (ex2b ⟨rfl, Ext.refl _⟩)
/-- what Diff hands back -/
def DiffR (w w' : World) (ls : List (List UInt8)) (a b : List ByteArray) (r : Value) : Prop :=
  Ext w w' ∧ (((∃ x, Rch ls a x ∧ isO ls x = false) ∧ r = .tuple #[.slice none 0 0, .int .i64 7]) ∨
    ((∀ x, Rch ls a x → isO ls x = true) ∧ ∃ v l, r = .tuple #[v, .int .i64 0] ∧ Row w' v (strsV l) ∧ Strict l ∧ ∀ x, x ∈ l ↔ Rch ls a x ∧ ¬ Rch ls b x))
theorem diff_spec {w : World} {fv av bv : Value} {ls : List (List UInt8)} {base lb eb ib most : Nat} {lv sv : Value} {a b U U' : List ByteArray} (hs : IsSrc w fv ls false base lb eb ib lv sv) (hll : ∀ l ∈ ls, l.length ≤ 1048576)
    (ha : Row w av (strsV a)) (hb : Row w bv (strsV b)) (hal : a.length ≤ 1048576) (hbl : b.length ≤ 1048576) (hm1 : 1 ≤ most) (hm2 : most ≤ 2000) (hU : ∀ x, Rch ls a x → x ∈ U) (hUl : U.length ≤ most) (hU' : ∀ x, Rch ls b x → x ∈ U') (hUl' : U'.length ≤ most) :
    Call Try.prog 42 #[fv, av, bv, .int .i64 most] w fun r w' => DiffR w w' ls a b r := by
  apply vc42
  unfold V42
  refine (closure_spec hs hll ha hal hm1 hm2 hU hUl).mono fun r w1 ⟨hE1, mv, nv, met, mis, hr, h1, h2, h3, h4, h5, h6⟩ => ?_
  subst hr
  refine ex3a (ex3b (ex3c (does_of (run_neI w1) ?_)))
  rw [show (!decide ((0 : Int) = 0)) = false from rfl, condP_false]
  refine (closure_spec (hs.ext hE1) hll (hb.ext hE1) hbl hm1 hm2 hU' hUl').mono fun r w2 ⟨hE2, mv2, nv2, met2, mis2, hr, g1, g2, g3, g4, g5, g6⟩ => ?_
  subst hr
  refine ex3a (ex3b (ex3c (does_of (run_neI w2) ?_)))
  rw [show (!decide ((0 : Int) = 0)) = false from rfl, condP_false]
  refine (h2.row.ext hE2).len u_strs (does_gt (condP_of (fun hgt => ?_) fun hle => ?_))
  · rw [strsV_length] at hgt
    have hpos : 0 < mis.length := by simpa using hgt
    exact ⟨hE1.trans hE2, .inl ⟨⟨mis[0], (h6 _).1 (List.getElem_mem hpos)⟩, rfl⟩⟩
  rw [strsV_length] at hle
  have hmis : mis = [] := List.eq_nil_of_length_eq_zero (by simp at hle; simpa using hle)
  have hall : ∀ x, Rch ls a x → isO ls x = true := fun x hx => by
    cases h : isO ls x with
    | true => rfl
    | false => have := (h6 x).2 ⟨hx, h⟩; rw [hmis] at this; cases this
  have hl1 : met2.length ≤ 2000 := Nat.le_trans (nodup_le2 (m := U') g3.nodup fun x hx => hU' x ((g5 x).1 hx).1) (by omega)
  have hl2 : mis2.length ≤ 2000 := Nat.le_trans (nodup_le2 (m := U') g4.nodup fun x hx => hU' x ((g6 x).1 hx).1) (by omega)
  refine (wmerge_spec g1.row g2.row (by omega)).mono fun tv w3 ⟨ht, hE3⟩ => ?_
  have e4 := ext_any (.cells #[.slice none 0 0] 23) w3
  have k4 : Kp w3.heap.size #[.slice none 0 0] 23 (w3.alloc (.cells #[.slice none 0 0] 23)) := heap_alloc_new w3 _
  refine does_of (run_allocIds w3) ?_
  have hlt3 : w1.heap.size ≤ w3.heap.size := (hE2.trans hE3).size
  generalize w3.alloc (.cells #[.slice none 0 0] 23) = w4 at e4 k4 ⊢
  generalize hcb : w3.heap.size = cb at k4 ⊢
  rw [hcb] at hlt3
  have ht4 := ht.ext e4
  have hm5 := Mod.setCell w4 cb 0 tv
  have hk5 : Kp cb #[tv] 23 (w4.setCell ⟨cb, 0, none⟩ tv) := k4.set (i := 0) tv
  obtain ⟨ta, tc, htv⟩ := ht.slice
  refine does_of (run_store1 sz_strsl (by rw [htv]; rfl) (by rw [htv]; rfl) (k4.cell rfl) k4.frozen) ?_
  have ht5 := hm5.own ht4 (ht4.neO k4 (by decide))
  have hE05 : Ext w (w4.setCell ⟨cb, 0, none⟩ tv) := Mod.ext (hE1.trans (hE2.trans (hE3.trans e4))) hm5 fun k hk => by cases hk; exact Nat.le_trans hE1.size hlt3
  have hmet4 := h1.ext (hE2.trans (hE3.trans e4))
  have hmet5 := hm5.own hmet4 (hmet4.neO k4 (by decide))
  generalize w4.setCell ⟨cb, 0, none⟩ tv = w5 at hk5 ht5 hE05 hmet5 ⊢
  have hmlt : ∀ k, mv.ownBlock = some k → k < w1.heap.size := own_le h1
  have hul : (usort (met2 ++ mis2)).length ≤ 1099511627776 := Nat.le_trans (usort_length_le _) (by rw [List.length_append]; omega)
  refine (deleteFunc_spec (f := fun k => memB k (usort (met2 ++ mis2))) hmet5 fun W hM k => ?_).mono fun v w6 ⟨d1, d2, d3⟩ => ?_
  · refine diffFn_call (hk5.mod hM fun e => ?_) (row_mod (base := w2.heap.size) ht5 hM fun k hk => Nat.lt_of_lt_of_le (hmlt k hk) hE2.size).row (usort_strict _).sorted hul k
    have := hmlt cb e.symm
    omega
  have hmem : ∀ x, x ∈ usort (met2 ++ mis2) ↔ Rch ls b x := fun x => by
    rw [mem_usort, List.mem_append, g5, g6]
    cases isO ls x <;> simp
  refine ⟨Mod.ext hE05 d3 fun k hk => h1.ge k hk, .inr ⟨hall, v, _, rfl, d1.row, h3.filter _, fun x => ?_⟩⟩
  rw [List.mem_filter, h5]
  simp only [Bool.not_eq_true', memB_false, hmem]
  constructor
  · rintro ⟨⟨a1, _⟩, a2⟩; exact ⟨a1, a2⟩
  · rintro ⟨a1, a2⟩; exact ⟨⟨a1, hall x a1⟩, a2⟩
end Go.Proofs.Ytcncgkkilgmphaa

set_option linter.unusedVariables false
set_option linter.unusedSimpArgs false
namespace Go.Proofs.Ytcncgkkilgmphaa
open Go Go.RowKit

theorem qhas {w W : World} {s : ByteArray} {l : Value} {xs : List ByteArray} {k : Value → World → Prop} (hr : Row w l (strsV xs)) (hk : k (.bool (memB s xs)) W) : QCall Try.prog (Ext w) 14 #[l, .string s] W k :=
  qcall_of _ (fun W1 hW => (has_spec (hr.ext hW)).mono fun v W2 ⟨h1, h2⟩ => ⟨h1, Ext.trans hW h2⟩) hk
theorem region5_16 {W : World} {dv mv m2v x2v : Value} {dl ml m2 x2 : List ByteArray} {i : Nat} {J : VF 1} (hd : Row W dv (strsV dl)) (hm : Row W mv (strsV ml)) (h2 : Row W m2v (strsV m2)) (hx : Row W x2v (strsV x2)) (hi : i < ml.length)
    (he : memB ml[i] dl = !(memB ml[i] m2 || memB ml[i] x2)) (hJ : ∀ W', Ext W W' → J (.bool false) W') :
    DrawP Try.prog 146 (opsOf Try.f5 16) [8, 10, 13, 14, 16] [dv, mv, m2v, x2v, .int .i64 i] [111] J W := by
  refine q5_16 (Ext W) (Ext.drawn _) fun _ => ?_
  have txt : ∀ {w : World} {k : Value → World → Prop}, k (.string ml[i]) w → Quiet Try.prog (Ext W) (Instr.indexAt 23 mv (.int .i64 (i : Nat))) w fun t w => Quiet Try.prog (Ext W) (Instr.loadAt 9 t) w k := fun hk =>
    q_index hm u_strs sz_str (by rw [strsV_length]; exact hi) fun p hp => q_load agg_str hp (by rw [strsV_get hi]; exact hk)
  refine txt (qhas hd (txt (qhas h2 (or_join (memB ml[i] x2) (fun _ j hj => txt (qhas hx hj)) (qx (fun W => run_eqB2 W) ?_)))))
  rw [he, show decide ((!(memB ml[i] m2 || memB ml[i] x2)) = (memB ml[i] m2 || memB ml[i] x2)) = false by cases (memB ml[i] m2 || memB ml[i] x2) <;> rfl]
  exact hJ
set_option maxHeartbeats 4000000 in
theorem reachDiffers_spec {w : World} {lv av bv : Value} {ls : List (List UInt8)} {a b : List ByteArray} (hl : RowsB w lv ls) (ha : Row w av (strsV a)) (hb : Row w bv (strsV b)) :
    Call Try.prog 5 #[lv, av, bv] w fun v w' => v = .bool true ∧ Ext w w' := by
  apply vc5
  unfold V5
  refine first_spec.mono fun _ w1 ⟨hv, hE1⟩ => ?_
  subst hv
  refine does_of (run_not w1) ?_
  rw [show (!true) = false from rfl, condP_false]
  refine (few_spec (hl.ext hE1)).mono fun v w' ⟨hw, b1, hv, hb1⟩ => ?_
  subst hw hv
  refine does_of (run_not w') ?_
  refine join1 (fun t W => W = w' ∧ (b1 = true → ∃ b : Bool, t = .bool (!b) ∧ (b = true → a.length ≤ 20))) ?_ (fun j hj => guardP_of (fun h => ?_) fun h => hj _ _ ⟨rfl, fun h' => by subst h'; exact absurd rfl h⟩)
  rotate_left
  · refine (few12_spec (ha.ext hE1)).mono fun v w2 ⟨hw, b2, hv, hb2⟩ => ?_
    subst hw hv
    exact does_of (run_not w2) (hj _ _ ⟨rfl, fun _ => ⟨b2, rfl, hb2⟩⟩)
  rintro t28 W ⟨rfl, ht⟩ _
  obtain ⟨b12, hb12, hpick⟩ : ∃ b12 : Bool, (b12 = true → b1 = true ∧ a.length ≤ 20) ∧ ∀ k : Value → Prop, k (.bool (!b12)) → PickP (.bool !b1) (.bool true) t28 k := by
    cases b1 with
    | false => exact ⟨false, by simp, fun k hk => by rw [show (!false) = true from rfl, pickP_true]; exact hk⟩
    | true =>
      obtain ⟨b2, rfl, hb2⟩ := ht rfl
      exact ⟨b2, fun h => ⟨rfl, hb2 h⟩, fun k hk => by rw [show (!true) = false from rfl, pickP_false]; exact hk⟩
  apply hpick
  refine join1 (fun t W' => W' = W ∧ (b12 = true → ∃ b' : Bool, t = .bool (!b') ∧ (b' = true → b.length ≤ 20))) ?_ (fun j hj => guardP_of (fun h => ?_) fun h => hj _ _ ⟨rfl, fun h' => by subst h'; exact absurd rfl h⟩)
  rotate_left
  · refine (few12_spec (hb.ext hE1)).mono fun v w2 ⟨hw, b2, hv, hb2⟩ => ?_
    subst hw hv
    exact does_of (run_not w2) (hj _ _ ⟨rfl, fun _ => ⟨b2, rfl, hb2⟩⟩)
  rintro t33 W ⟨rfl, ht⟩ _
  have out : ∀ {W : World}, Ext w W → Call Try.prog 6 #[] W fun t28 w_1 => t28 = .bool true ∧ Ext w w_1 := fun hE => first_spec.mono fun v w2 ⟨h1, h2⟩ => ⟨h1, hE.trans h2⟩
  cases b12 with
  | false =>
    rw [show (!false) = true from rfl, pickP_true, condP_true]
    exact out hE1
  | true =>
  obtain ⟨b3, rfl, hb3⟩ := ht rfl
  rw [show (!true) = false from rfl, pickP_false]
  cases b3 with
  | false =>
    rw [show (!false) = true from rfl, condP_true]
    exact out hE1
  | true =>
  rw [show (!true) = false from rfl, condP_false]
  obtain ⟨hn40, h1500, h6000⟩ := hb1 (hb12 rfl).1
  have ha20 := (hb12 rfl).2
  have hb20 := hb3 rfl
  have hll : ∀ l ∈ ls, l.length ≤ 1048576 := fun l hl => Nat.le_trans (h1500 l hl) (by omega)
  have hUa : ∀ x, Rch ls a x → x ∈ uni ls a := fun x hx => uni_rch hx
  have hUb : ∀ x, Rch ls b x → x ∈ uni ls b := fun x hx => uni_rch hx
  have hla := uni_len h6000 ha20
  have hlb := uni_len h6000 hb20
  refine (source_spec (lie := false) (hl.ext hE1) hll (by omega)).mono fun fv w2 ⟨hE2, lb, eb, ib, sv, hs⟩ => ?_
  have ha2 := (ha.ext hE1).ext hE2
  have hb2 := (hb.ext hE1).ext hE2
  refine (diff_spec (most := 2000) hs hll ha2 hb2 (by omega) (by omega) (by omega) (by omega) hUa hla hUb hlb).mono fun r w3 ⟨hE3, hdr⟩ => ?_
  obtain ⟨dv, e, rfl⟩ : ∃ dv e, r = .tuple #[dv, .int .i64 e] := by
    rcases hdr with ⟨_, h⟩ | ⟨_, v, l, h, _⟩
    · exact ⟨_, _, h⟩
    · exact ⟨_, _, h⟩
  refine ex2a (ex2b ?_)
  have hs3 := hs.ext hE3
  have ha3 := ha2.ext hE3
  have hb3' := hb2.ext hE3
  refine (closure_spec (most := 2000) hs3 hll ha3 (by omega) (by omega) (by omega) hUa hla).mono fun r w4 ⟨hE4, mv, nv, met, mis, hr, h1, h2, h3, h4, h5, h6⟩ => ?_
  subst hr
  refine ex3a (ex3b (ex3c ?_))
  refine (closure_spec (most := 2000) (hs3.ext hE4) hll (hb3'.ext hE4) (by omega) (by omega) (by omega) hUb hlb).mono fun r w5 ⟨hE5, mv2, nv2, met2, mis2, hr, g1, g2, g3, g4, g5, g6⟩ => ?_
  subst hr
  refine ex3a (ex3b (ex3c (does_of (run_neI w5) ?_)))
  rw [show (!decide ((0 : Int) = 0)) = false from rfl]
  refine or_join (b1 := false) false (fun _ j hj => does_of (run_neI w5) hj) ?_
  rw [show (false || false) = false from rfl]
  have r1 := h1.row.ext hE5
  have r2 := h2.row.ext hE5
  have hE35 := hE4.trans hE5
  have hE05 : Ext w w5 := hE1.trans (hE2.trans (hE3.trans hE35))
  have hmis : decide (mis.length = 0) = decide (e = 0) := by
    rcases hdr with ⟨⟨x, q1, q2⟩, hr⟩ | ⟨hall, v, l, hr, _⟩
    · simp only [Value.tuple.injEq, Array.mk.injEq, List.cons.injEq, Value.int.injEq, true_and, and_true] at hr
      have hne : mis.length ≠ 0 := fun h => by
        have := (h6 x).2 ⟨q1, q2⟩
        rw [List.eq_nil_of_length_eq_zero h] at this
        cases this
      rw [hr.2]
      simpa using hne
    · simp only [Value.tuple.injEq, Array.mk.injEq, List.cons.injEq, Value.int.injEq, true_and, and_true] at hr
      have hz : mis = [] := by
        cases mis with
        | nil => rfl
        | cons x l' =>
          obtain ⟨q1, q2⟩ := (h6 x).1 (by simp)
          rw [hall x q1] at q2
          cases q2
      rw [hr.2, hz]
      rfl
  refine or_join (b1 := false) false (fun _ j hj => does_of (run_eqI w5) (r2.len u_strs (does_of (run_eqI w5) (does_of (run_neB2 w5) ?_)))) ?_
  · rw [strsV_length, show (!decide (decide (e = 0) = decide (((mis.length : Nat) : Int) = 0))) = false by rw [← hmis]; simp]
    exact hj
  rw [show (false || false) = false from rfl, condP_false]
  refine does_of (run_neI w5) ?_
  rcases hdr with ⟨⟨x, q1, q2⟩, hr⟩ | ⟨hall, v, l, hr, hvr, hls, hlm⟩
  · simp only [Value.tuple.injEq, Array.mk.injEq, List.cons.injEq, Value.int.injEq, true_and, and_true] at hr
    obtain ⟨rfl, rfl⟩ := hr
    rw [show (!decide ((7 : Int) = 0)) = true from rfl, condP_true]
    refine first_spec.mono fun v w6 ⟨hv, hE6⟩ => ?_
    subst hv
    refine and_join (b1 := true) true (fun _ j hj => does_of (run_eqI w6) hj) ?_
    rw [show (true && true) = true from rfl]
    refine and_join (b1 := true) true (fun _ j hj => (Row.nil w6 _ _).len u_strs (does_of (run_eqI w6) hj)) ⟨rfl, hE05.trans hE6⟩
  simp only [Value.tuple.injEq, Array.mk.injEq, List.cons.injEq, Value.int.injEq, true_and, and_true] at hr
  obtain ⟨rfl, rfl⟩ := hr
  rw [show (!decide ((0 : Int) = 0)) = false from rfl, condP_false]
  have rd := hvr.ext hE35
  have q1 := g1.row
  have q2 := g2.row
  have hmemb : ∀ x, (memB x met2 || memB x mis2) = true ↔ Rch ls b x := fun x => by
    rw [Bool.or_eq_true, memB_iff, memB_iff, g5, g6]
    cases isO ls x <;> simp
  have hml : met.length ≤ 2000 := Nat.le_trans (nodup_le2 (m := uni ls a) h3.nodup fun x hx => hUa x ((h5 x).1 hx).1) hla
  have hll2 : l.length ≤ 2000 := Nat.le_trans (nodup_le2 (m := uni ls a) hls.nodup fun x hx => hUa x ((hlm x).1 hx).1) hla
  -- each that a reaches
  refine rounds1 (σ := Nat) (fun i => .int .i64 ((i : Nat) : Int)) (fun i W => i ≤ met.length ∧ Ext w5 W) (fun i _ => met.length - i) 0 rfl ⟨Nat.zero_le _, Ext.refl _⟩ ?_
  rintro next7 i W ⟨hi, hE⟩ hnext _
  refine (r1.ext hE).len u_strs (does_lt ?_)
  rw [strsV_length]
  refine condP_of (fun hlt => ?_) fun _ => ?_
  · have hlt : i < met.length := by simpa using hlt
    refine region5_16 (rd.ext hE) (r1.ext hE) (q1.ext hE) (q2.ext hE) hlt ?_ fun W' hW' _ => ?_
    · have hra := ((h5 met[i]).1 (List.getElem_mem hlt)).1
      cases hbb : (memB met[i] met2 || memB met[i] mis2) with
      | true => exact memB_false.2 fun h => ((hlm _).1 h).2 ((hmemb _).1 hbb)
      | false => exact memB_iff.2 ((hlm _).2 ⟨hra, fun h => by rw [(hmemb _).2 h] at hbb; cases hbb⟩)
    rw [condP_false]
    exact does_add (by omega) (by omega) (hnext (i + 1) _ W' (by congr 1) ⟨hlt, hE.trans hW'⟩ (by omega))
  clear hnext hi
  refine rounds1 (σ := Nat) (fun i => .int .i64 ((i : Nat) : Int)) (fun i W => i ≤ l.length ∧ Ext w5 W) (fun i _ => l.length - i) 0 rfl ⟨Nat.zero_le _, hE⟩ ?_
  clear hE
  rintro next8 i W ⟨hi, hE⟩ hnext _
  refine (rd.ext hE).len u_strs (does_lt ?_)
  rw [strsV_length]
  refine condP_of (fun hlt => ?_) fun _ => ?_
  · have hlt : i < l.length := by simpa using hlt
    refine (rd.ext hE).index u_strs sz_str (by rw [strsV_length]; exact hlt) fun p hp => does_load1 agg_str hp ?_
    rw [strsV_get hlt]
    refine (has_spec (r1.ext hE)).mono fun v W2 ⟨hv, hE2⟩ => ?_
    subst hv
    have hra := ((hlm l[i]).1 (List.getElem_mem hlt)).1
    rw [memB_iff.2 ((h5 _).2 ⟨hra, hall _ hra⟩)]
    refine does_of (run_not W2) ?_
    rw [show (!true) = false from rfl, condP_false]
    exact does_add (by omega) (by omega) (hnext (i + 1) _ W2 (by congr 1) ⟨hlt, hE.trans hE2⟩ (by omega))
  clear hnext hi
  have ha5 := (ha3.ext hE35).ext hE
  refine (diff_spec (most := 2000) ((hs3.ext hE35).ext hE) hll ha5 ha5 (by omega) (by omega) (by omega) (by omega) hUa hla hUa hla).mono fun r w7 ⟨hE7, hdr⟩ => ?_
  rcases hdr with ⟨⟨x, z1, z2⟩, _⟩ | ⟨_, v', l', rfl, hvr', hls', hlm'⟩
  · rw [hall x z1] at z2
    cases z2
  have hl0 : l' = [] := by
    cases l' with
    | nil => rfl
    | cons x t => exact absurd ((hlm' x).1 (by simp)).1 ((hlm' x).1 (by simp)).2
  subst hl0
  refine ex2a (ex2b (first_spec.mono fun v w8 ⟨hv, hE8⟩ => ?_))
  subst hv
  refine and_join (b1 := true) true (fun _ j hj => does_of (run_eqI w8) hj) ?_
  rw [show (true && true) = true from rfl]
  refine and_join (b1 := true) true (fun _ j hj => (hvr'.ext hE8).len u_strs (does_of (run_eqI w8) hj)) ?_
  rw [show (true && true) = true from rfl]
  have hEe := hE.trans (hE7.trans hE8)
  refine and_joinW (b1 := true) (fun W' => Ext w5 W') true hEe (fun _ j hj => ?_) fun W3 hE3 => ⟨rfl, hE05.trans hE3⟩
  refine (rises_spec (rd.ext hEe)).mono fun v w9 ⟨hE9, hv⟩ => ?_
  subst hv
  rw [cd_iff.2 hls]
  exact hj _ (hEe.trans hE9)
end Go.Proofs.Ytcncgkkilgmphaa
