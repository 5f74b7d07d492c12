/-
  Contracts: comparing, merging, sorting texts; each once.
-/
import Derived.Test.YtcncgkkilgmphaaTx
import Derived.Test.YtcncgkkilgmphaaPl
set_option linter.unusedVariables false
set_option linter.unusedSimpArgs false
namespace Go.Proofs.Ytcncgkkilgmphaa
open Go Go.RowKit

theorem zero_str (w : World) : (zeroValue 9).run Try.prog w = .ok (.string ByteArray.empty) w := by kernel_rfl
def cmpS (a b : ByteArray) : Int := if blt a b then -1 else if blt b a then 1 else 0
theorem cmpS_neg {a b : ByteArray} : cmpS a b < 0 ↔ blt a b = true := by
  unfold cmpS
  split
  · simp [*]
  · split <;> simp [*]
theorem compare_spec {w : World} {a b : ByteArray} : Call Try.prog 96 #[.string a, .string b] w fun v w' => v = .int .i64 (cmpS a b) ∧ w' = w := by
  apply vc96
  unfold V96
  refine does_of (run_ltS _) (condP_of (fun h => ?_) fun h => does_of (run_gtS _) (condP_of (fun h2 => ?_) fun h2 => ?_)) <;> simp [cmpS, *]

structure MergeSt where
  a : Value
  b : Value
  o : Value
  xs : List ByteArray
  ys : List ByteArray
  zs : List ByteArray
theorem row_nil_of {w : World} {v : Value} {xs : List ByteArray} (h : Row w v (strsV xs)) (h0 : xs = []) : Row w v (strsV []) := by subst h0; exact h
theorem blt_refl_false {x z : ByteArray} (h : z = x) : blt x z = false := by subst h; exact blt_irrefl _
theorem run_quo2 {P : Program} {t : TypeId} {a : Int} (h : 0 ≤ a ∧ a ≤ 9223372036854775807) (w : World) : (binOp .quo t (.int .i64 a) (.int .i64 2)).run P w = .ok (.int .i64 (a.tdiv 2)) w := by
  rw [binOp_quo]
  have h2 : (a.tdiv 2) = a / 2 := by rw [Int.tdiv_eq_ediv_of_nonneg h.1]
  simp only [Op.intDiv]
  have h3 := wrap_i64 (x := a.tdiv 2) (by omega) (by omega)
  simp [h3]
set_option maxHeartbeats 1000000 in
theorem merge_spec {w0 : World} {a b : Value} {xs ys : List ByteArray} (ha : Row w0 a (strsV xs)) (hb : Row w0 b (strsV ys)) (sa : Sorted xs) (sb : Sorted ys) (hl : xs.length + ys.length ≤ 1099511627776) :
    Call Try.prog 74 #[a, b] w0 fun v w' => Own w' w0.heap.size 9 v (strsV (sortS (xs ++ ys))) ∧ Ext w0 w' := by
  apply vc74
  unfold V74
  refine ha.len u_strs (hb.len u_strs (does_of (run_add (by omega) (by simp; omega) w0) ?_))
  rw [show (((strsV xs).length : Int) + ((strsV ys).length : Int)) = ((xs.length + ys.length : Nat) : Int) by simp]
  obtain ⟨cur, hcur, hmk⟩ := run_make0 u_strs info_str rfl (xs.length + ys.length) (by omega) (by omega) w0
  refine does_of hmk ?_
  have hown0 : Own (w0.alloc (.cells cur 9)) w0.heap.size 9 (.slice (some ⟨w0.heap.size, 0, none⟩) 0 (xs.length + ys.length)) (strsV []) := by
    have := World.ownsRow_made (base := w0.heap.size) (e := 9) (size := 1) w0 cur (xs.length + ys.length) (Nat.le_refl _) (by simp [maxLen]; omega) (by omega)
    exact this
  refine rounds3 (σ := MergeSt) (fun s => s.a) (fun s => s.b) (fun s => s.o)
    (fun s w' => Row w0 s.a (strsV s.xs) ∧ Row w0 s.b (strsV s.ys) ∧ Own w' w0.heap.size 9 s.o (strsV s.zs) ∧ Ext w0 w' ∧ Sorted s.zs ∧ Sorted s.xs ∧ Sorted s.ys ∧ (∀ z ∈ s.zs, ∀ x, x ∈ s.xs ∨ x ∈ s.ys → blt x z = false) ∧ (s.zs ++ (s.xs ++ s.ys)).Perm (xs ++ ys))
    (fun s _ => s.xs.length + s.ys.length) ⟨a, b, _, xs, ys, []⟩ rfl rfl rfl ⟨ha, hb, hown0, (Ext.refl w0).alloc _, List.Pairwise.nil, sa, sb, by simp, by simp⟩ ?_
  rintro next ⟨va, vb, vo, xs1, ys1, zs⟩ w1 ⟨ra, rb, ro, hE, hsz, hsx, hsy, hle, hp⟩ hnext _
  simp only at ra rb ro hsz hsx hsy hle hp ⊢
  have hlen : zs.length + (xs1.length + ys1.length) = xs.length + ys.length := by simpa using hp.length_eq
  -- the end
  have fin : xs1 = [] ∨ ys1 = [] → Does Try.prog (Builtin.append_ #[23, 23] 23 #[vo, va]) w1 fun t40 w =>
      Does Try.prog (Builtin.append_ #[23, 23] 23 #[t40, vb]) w fun t42 w => Own w w0.heap.size 9 t42 (strsV (sortS (xs ++ ys))) ∧ Ext w0 w := by
    intro h0
    refine ro.append u_strs info_str rfl (ra.ext hE) (strsV_one _) (by simp; omega) (by omega) hE.size fun v2 w2 ho2 hg2 _ => ?_
    have hE2 := hE.grownOwn ro hg2
    refine ho2.append u_strs info_str rfl (rb.ext hE2) (strsV_one _) (by simp; omega) (by omega) hE2.size fun v3 w3 ho3 hg3 _ => ⟨?_, hE2.grownOwn ho2 hg3⟩
    have : zs ++ xs1 ++ ys1 = sortS (xs ++ ys) := by
      refine sortS_of ?_ (by rw [List.append_assoc]; exact hp)
      rcases h0 with rfl | rfl
      · simp only [List.append_nil]
        exact sorted_append.2 ⟨hsz, hsy, fun z hz x hx => hle z hz x (.inr hx)⟩
      · simp only [List.append_nil]
        exact sorted_append.2 ⟨hsz, hsx, fun z hz x hx => hle z hz x (.inl hx)⟩
    rw [← this, strsV_append, strsV_append]
    exact ho3
  refine (ra.ext hE).len u_strs (does_of (run_gt w1) ?_)
  cases xs1 with
  | nil =>
    have e1 : decide ((0 : Int) < ((strsV []).length : Int)) = false := by simp [strsV]
    rw [e1]
    refine guardP_of (fun h => by cases h) fun _ _ => ?_
    rw [pickP_false, condP_false]
    exact fin (.inl rfl)
  | cons x xs1 =>
    have e1 : decide ((0 : Int) < ((strsV (x :: xs1)).length : Int)) = true := by simp [strsV]
    rw [e1]
    refine guardP_of (fun _ => ?_) fun h => absurd rfl h
    refine (rb.ext hE).len u_strs (does_of (run_gt w1) ?_)
    intro _
    rw [pickP_true]
    cases ys1 with
    | nil =>
      have e2 : decide ((0 : Int) < ((strsV []).length : Int)) = false := by simp [strsV]
      rw [e2, condP_false]
      exact fin (.inr rfl)
    | cons y ys1 =>
      have e2 : decide ((0 : Int) < ((strsV (y :: ys1)).length : Int)) = true := by simp [strsV]
      rw [e2, condP_true]
      refine join2 (fun va vb W => ∃ x xs2 ys2, Ext w1 W ∧ Row w0 va (strsV (x :: xs2)) ∧ Row w0 vb (strsV ys2) ∧ Sorted (x :: xs2) ∧ Sorted ys2 ∧ (∀ u ∈ ys2, blt u x = false) ∧
        (∀ z ∈ zs, ∀ u, u ∈ x :: xs2 ∨ u ∈ ys2 → blt u z = false) ∧ (zs ++ (x :: xs2 ++ ys2)).Perm (xs ++ ys) ∧ xs2.length + ys2.length < xs1.length + 1 + (ys1.length + 1)) ?_ ?_
      · rintro va vb W ⟨x, xs2, ys2, hW, ra, rb, hsx, hsy, hmin, hle, hp, hm⟩ _
        have hEW := hE.trans hW
        have roW := ro.ext hW
        refine ra.index (i := 0) u_strs sz_str (by simp [strsV]) fun p hp3 => does_load1 agg_str (hEW.cell hp3) ?_
        rw [strsV_get (by simp)]
        refine does_of (run_buildSlice1 u_strs sz_str zero_str rfl rfl W) ?_
        have roA := (roW.ext ((Ext.refl W).alloc (.cells #[.string x] 9)))
        have rN : Row (W.alloc (.cells #[.string x] 9)) (.slice (some ⟨W.heap.size, 0, none⟩) 1 1) (strsV [x]) := (own_single (base := 0) 9 (.string x) (Nat.zero_le _)).row
        have hlen2 : zs.length + (xs2.length + 1 + ys2.length) = xs.length + ys.length := by have := hp.length_eq; simp at this; omega
        refine roA.append u_strs info_str rfl rN (strsV_one _) (by simp; omega) (by omega) (Nat.le_trans hEW.size (by simp)) fun v2 w2 ho2 hg2 _ => ?_
        have hE2 := (hEW.alloc _).grownOwn roA hg2
        refine ra.from (l := 1) u_strs sz_str (by simp [strsV]) fun v3 hr3 => ?_
        obtain ⟨h1, h2⟩ := List.pairwise_cons.1 hsx
        refine hnext ⟨v3, vb, v2, xs2, ys2, zs ++ [x]⟩ _ _ _ w2 rfl rfl rfl ⟨by simpa [strsV] using hr3, rb, by rw [strsV_append]; exact ho2, hE2, ?_, h2, hsy, ?_, ?_⟩ (by simp only [List.length_cons]; omega)
        · exact sorted_append.2 ⟨hsz, List.pairwise_singleton _ _, fun z hz u hu => by rw [List.mem_singleton.1 hu]; exact hle z hz x (.inl (by simp))⟩
        · intro z hz u hu
          rcases List.mem_append.1 hz with hz | hz
          · exact hle z hz u (hu.imp (fun h => by simp [h]) id)
          · rw [List.mem_singleton.1 hz]
            rcases hu with hu | hu
            · exact h1 u hu
            · exact hmin u hu
        · simpa using hp
      · intro j hj
        refine q74_3 (Ext w1) (Ext.drawn _) fun _ => ?_
        refine q_index (i := 0) (rb.ext hE) u_strs sz_str (by simp [strsV]) fun p hp1 => q_load agg_str hp1 ?_
        refine q_index (i := 0) (ra.ext hE) u_strs sz_str (by simp [strsV]) fun p hp2 => q_load agg_str hp2 ?_
        rw [strsV_get (by simp), strsV_get (by simp)]
        refine qcall_of (.int .i64 (cmpS y x)) (fun W hW => compare_spec.mono fun u W' ⟨h1, h2⟩ => ⟨h1, h2 ▸ hW⟩) ?_
        obtain ⟨hx1, hx2⟩ := List.pairwise_cons.1 hsx
        obtain ⟨hy1, hy2⟩ := List.pairwise_cons.1 hsy
        refine q_of run_lt fun W hW _ => condP_of (fun hlt => ?_) fun hge => ?_
        · -- y is the lesser
          have hyx : blt y x = true := cmpS_neg.1 (by simpa using hlt)
          refine hj _ _ _ ⟨y, ys1, x :: xs1, hW, rb, ra, hsy, hsx, ?_, fun z hz u hu => hle z hz u hu.symm, ?_, by simp only [List.length_cons]; omega⟩
          · intro u hu
            rcases List.mem_cons.1 hu with rfl | hu
            · exact blt_asymm hyx
            · exact ble_trans (blt_asymm hyx) (hx1 u hu)
          · exact (List.Perm.append_left zs List.perm_append_comm).trans hp
        · have hyx : blt y x = false := by
            cases h : blt y x with
            | false => rfl
            | true => have := cmpS_neg.2 h; simp at hge; omega
          refine hj _ _ _ ⟨x, xs1, y :: ys1, hW, ra, rb, hsx, hsy, ?_, hle, hp, by simp only [List.length_cons]; omega⟩
          intro u hu
          rcases List.mem_cons.1 hu with rfl | hu
          · exact hyx
          · exact ble_trans hyx (hy1 u hu)

/-- wire.Sort -/
theorem sort_spec : ∀ (n : Nat) {w0 : World} {a : Value} {xs : List ByteArray}, xs.length ≤ n → Row w0 a (strsV xs) → xs.length ≤ 1099511627776 →
    Call Try.prog 51 #[a] w0 fun v w' => Own w' w0.heap.size 9 v (strsV (sortS xs)) ∧ Ext w0 w' := by
  intro n
  induction n using Nat.strongRecOn with
  | _ n ih =>
  intro w0 a xs hn ha hl
  apply vc51
  unfold V51
  refine ha.len u_strs (does_of (run_lt w0) (condP_of (fun hlt => ?_) fun hge => ?_))
  · refine (clone_spec ha hl).mono fun v w' ⟨h1, h2⟩ => ⟨?_, h2⟩
    have : sortS xs = xs := by
      simp at hlt
      match xs, hlt with
      | [], _ => rfl
      | [x], _ => rfl
    rw [this]
    exact h1
  · simp at hge
    have hq : (((strsV xs).length : Int)).tdiv 2 = ((xs.length / 2 : Nat) : Int) := by simp
    refine ha.len u_strs (does_of (run_quo2 (by simp; omega) w0) ?_)
    rw [hq]
    have hh : xs.length / 2 ≤ xs.length := by omega
    refine p51_4 Ext (fun v W => Row W v (strsV (xs.take (xs.length / 2)))) (fun v W => Own W w0.heap.size 9 v (strsV (sortS (xs.take (xs.length / 2)))))
      (fun v W => Row W v (strsV (xs.drop (xs.length / 2)))) (fun v W => Own W w0.heap.size 9 v (strsV (sortS (xs.drop (xs.length / 2))))) (fun v W => Own W w0.heap.size 9 v (strsV (sortS xs)))
      Ext.refl (fun _ _ _ => Ext.trans) (FSt.row _) (FSt.own _ _ _) (FSt.row _) (FSt.own _ _ _) (FSt.own _ _ _) ?_ ?_ ?_ ?_ ?_ ?_
    · intro W hW
      have hW' := (Ext.drawn w0).trans hW
      exact (ha.ext hW').upto u_strs sz_str (by simpa using hh) fun v hv => ⟨Ext.refl _, trivial, by simpa [strsV, List.map_take] using hv⟩
    · intro v W hW hv
      have hW' := (Ext.drawn w0).trans hW
      refine (ih (xs.length / 2) (by omega) (by simp; omega) hv (by simp; omega)).mono fun u W' ⟨h1, h2⟩ => ⟨h2, trivial, h1.mono hW'.size⟩
    · intro W hW
      have hW' := (Ext.drawn w0).trans hW
      exact (ha.ext hW').from u_strs sz_str (by simpa using hh) fun v hv => ⟨Ext.refl _, trivial, by simpa [strsV, List.map_drop] using hv⟩
    · intro v W hW hv
      have hW' := (Ext.drawn w0).trans hW
      refine (ih (xs.length - xs.length / 2) (by omega) (by simp) hv (by simp; omega)).mono fun u W' ⟨h1, h2⟩ => ⟨h2, trivial, h1.mono hW'.size⟩
    · intro v u W hW hv hu
      have hW' := (Ext.drawn w0).trans hW
      refine (merge_spec hv.row hu.row (sortS_sorted _) (sortS_sorted _) (by simp [sortS_length]; omega)).mono fun t W' ⟨h1, h2⟩ => ⟨h2, trivial, ?_⟩
      have : sortS (sortS (xs.take (xs.length / 2)) ++ sortS (xs.drop (xs.length / 2))) = sortS xs := by
        refine sortS_of (sortS_sorted _) ((sortS_perm _).trans ?_)
        have := (sortS_perm (xs.take (xs.length / 2))).append (sortS_perm (xs.drop (xs.length / 2)))
        rwa [List.take_append_drop] at this
      rw [← this]
      exact h1.mono hW'.size
    · intro v W hW hv _
      exact ⟨hv, (Ext.drawn w0).trans hW⟩

/-! ### each once -/
theorem add_head (g j : Nat) : (⟨g, 0, none⟩ : Addr).add j = ⟨g, j, none⟩ := by unfold Addr.add; split <;> simp_all
theorem strsV_take (xs : List ByteArray) (k : Nat) : strsV (xs.take k) = (strsV xs).take k := by simp [strsV, List.map_take]
theorem strsV_drop (xs : List ByteArray) (k : Nat) : strsV (xs.drop k) = (strsV xs).drop k := by simp [strsV, List.map_drop]
theorem run_clear_row {w : World} {base : Nat} {a : Option Addr} {xs : List ByteArray} {c k : Nat} (ho : Own w base 9 (.slice a xs.length c) (strsV xs)) (hk : k ≤ xs.length) :
    ∃ w', (Builtin.clear_ #[23] 0 #[.slice (if c = k then a else a.map (·.add k)) (xs.length - k) (c - k)]).run Try.prog w = .ok (.tuple #[]) w' ∧ Own w' base 9 (.slice a k c) (strsV (xs.take k)) ∧ Mod (Value.slice a xs.length c).ownBlock w w' := by
  by_cases hkn : k = xs.length
  · subst hkn
    refine ⟨w, ?_, ?_, Mod.refl _ _⟩
    · simp only [Builtin.clear_, List.getElem?_toArray, List.getElem?_cons_zero, Nat.sub_self]
      cases (if c = xs.length then a else a.map (·.add xs.length)) <;> simp [run_underlying u_strs]
    · simpa using ho
  · rcases ho.2 with ⟨hv, h0⟩ | ⟨g, cap, cur, hv, hb, hg, hn, hm, hsz, ht⟩
    · rw [strsV_length] at h0; omega
    · simp only [Value.slice.injEq] at hv
      obtain ⟨rfl, hv2, rfl⟩ := hv
      simp at hn ht
      have hadd := add_head g k
      have hck : ¬ c = k := by omega
      obtain ⟨m, hm1⟩ : ∃ m, xs.length - k = m + 1 := ⟨xs.length - k - 1, by omega⟩
      have hst := run_storeCells_at Try.prog g k 9 (Builtin.zeroCells (Value.string ByteArray.empty).cells (m + 1)).toList 0 cur w hg (by simp [size_zeroCells, Value.cells]; omega) (by
        intro u hu
        simp only [Builtin.zeroCells, Array.toList_map, List.mem_map] at hu
        obtain ⟨j, _, rfl⟩ := hu
        simp [Value.cells, Nat.mod_one]
        rfl)
      simp only [Nat.add_zero] at hst
      have hrun : (Builtin.clear_ #[23] 0 #[.slice (if c = k then some ⟨g, 0, none⟩ else (some ⟨g, 0, none⟩ : Option Addr).map (·.add k)) (xs.length - k) (c - k)]).run Try.prog w = .ok (.tuple #[]) (w.setRow g
        (List.take k cur.toList ++ (Builtin.zeroCells (Value.string ByteArray.empty).cells (m + 1)).toList ++ List.drop (k + (Builtin.zeroCells (Value.string ByteArray.empty).cells (m + 1)).toList.length) cur.toList).toArray) := by
        simp only [Builtin.clear_, List.getElem?_toArray, List.getElem?_cons_zero]
        rw [if_neg hck, hm1]
        simp only [Option.map_some, Sem.run_bind, run_underlying u_strs, Result.andThen_ok, hadd, zero_str, hst, Sem.run_pure]
      refine ⟨_, hrun, ?_, ?_⟩
      · have hlk : (strsV (xs.take k)).length = k := by rw [strsV_length, List.length_take, Nat.min_eq_left hk]
        refine ⟨by rw [hlk, Nat.mul_one], .inr ⟨g, c, _, by rw [hlk], hb, setRow_heap w g cur _ 9 _ hg, by rw [hlk]; omega, hm, ?_, ?_⟩⟩
        · simp [size_zeroCells, Value.cells]; omega
        · rw [hlk, Nat.mul_one, strsV_take, ← ht]
          show ((List.take k cur.toList ++ _) ++ _).take k = _
          rw [List.append_assoc, List.take_append_of_le_length (by simp; omega), List.take_take, List.take_take, Nat.min_self, Nat.min_eq_left hk]
      · exact ⟨rfl, rfl, rfl, (by show w.heap.size ≤ (w.heap.modify _ _).size; rw [Array.size_modify]; exact Nat.le_refl _), fun i _ hne => setRow_other w g i _ (fun h => hne (by simp [Value.ownBlock, h]))⟩

/-- slices.Compact at an own row that is sorted -/
theorem compact_spec {w0 : World} {base : Nat} {s : Value} {xs : List ByteArray} (ho : Own w0 base 9 s (strsV xs)) (hs : Sorted xs) :
    Call Try.prog 79 #[s] w0 fun v w' => Own w' base 9 v (strsV (usort xs)) ∧ v.ownBlock = s.ownBlock ∧ Mod s.ownBlock w0 w' := by
  apply vc79
  unfold V79
  have hr0 := ho.row
  have hle := hr0.len_le
  simp at hle
  obtain ⟨a, c, hsv, ⟨_, hnc⟩, _⟩ := id hr0
  simp at hsv hnc
  have whole : Strict xs → usort xs = xs := fun h => (usort_of h fun _ => Iff.rfl).symm
  refine hr0.len u_strs (does_of (run_lt w0) (condP_of (fun hlt => ?_) fun hge => ?_))
  · refine ⟨?_, rfl, Mod.refl _ _⟩
    rw [whole]
    · exact ho
    · simp at hlt
      match xs, hlt with
      | [], _ => exact List.Pairwise.nil
      | [x], _ => exact List.pairwise_singleton _ _
  simp at hge
  refine rounds1 (fun k : Nat => .int .i64 k) (fun k w => 1 ≤ k ∧ k ≤ xs.length ∧ Ext w0 w ∧ Strict (xs.take k)) (fun k _ => xs.length - k) 1 rfl ⟨by omega, by omega, Ext.refl _, ?_⟩ ?_
  · match xs, hge with
    | x :: l, _ => exact List.pairwise_singleton _ _
  rintro next k w ⟨hk1, hk2, hE, hst⟩ hnext _
  refine hr0.len u_strs (does_of (run_lt w) (condP_of (fun hlt => ?_) fun hge2 => ?_))
  · simp at hlt
    refine q79_6 (Ext w) (Ext.drawn _) fun _ => ?_
    have hrw := hr0.ext hE
    refine q_index hrw u_strs sz_str (by simpa using hlt) fun p hp => q_load agg_str hp ?_
    refine q_of (run_sub (by omega) (by omega)) ?_
    rw [show ((k : Int) - 1) = ((k - 1 : Nat) : Int) by omega]
    refine q_index (i := k - 1) hrw u_strs sz_str (by rw [strsV_length]; omega) fun p hp => q_load agg_str hp ?_
    rw [strsV_get hlt, strsV_get (by omega)]
    refine q_of run_eqS fun W hW _ => condP_of (fun he => ?_) fun hne => ?_
    · -- two alike: from here on they are moved
      have he : xs[k] = xs[k - 1] := by simpa using he
      have hEW := hE.trans hW
      subst hsv
      refine does_of (run_from u_strs sz_str hk2 W) ?_
      have ho' : Own w0 base 9 (.slice a xs.length c) (strsV xs) := ho
      refine rounds2 (σ := Nat × Nat × List ByteArray) (fun t => .int .i64 t.1) (fun t => .int .i64 t.2.1)
        (fun t w' => ∃ r, r = k + t.2.1 ∧ 1 ≤ t.2.1 ∧ r ≤ xs.length ∧ t.1 + 1 ≤ r ∧ Own w' base 9 (.slice a xs.length c) (strsV t.2.2) ∧ t.2.2.length = xs.length ∧ Mod (Value.slice a xs.length c).ownBlock w0 w' ∧
          Strict (t.2.2.take t.1) ∧ (∀ x, x ∈ t.2.2.take t.1 ↔ x ∈ xs.take r) ∧ t.2.2.drop (r - 1) = xs.drop (r - 1))
        (fun t _ => xs.length - t.2.1) (k, 1, xs) rfl rfl ⟨k + 1, rfl, Nat.le_refl 1, by omega, Nat.le_refl _, ho.ext hEW, rfl, Mod.ofExt hEW, hst, ?_, rfl⟩ ?_
      · intro x
        simp only
        rw [List.take_succ_eq_append_getElem hlt, List.mem_append]
        constructor
        · exact .inl
        · rintro (h | h)
          · exact h
          · rw [List.mem_singleton.1 h, he]
            exact List.mem_take_iff_getElem.2 ⟨k - 1, by omega, rfl⟩
      rintro next2 ⟨k3, j, cs⟩ w2 ⟨r, hr, hj, hrl, hkr, oc, hcl, hM, hsc, hmem, hdr⟩ hnext2 _
      simp only at hr hj hrl hkr oc hcl hM hsc hmem hdr ⊢
      have rc := oc.row
      have hcl' : (strsV cs).length = xs.length := by rw [strsV_length, hcl]
      have rs2 : Row w2 (.slice (if c = k then a else a.map (·.add k)) (xs.length - k) (c - k)) (strsV (cs.drop k)) := by
        have h1 : Row w2 (.slice a (strsV cs).length c) (strsV cs) := by rw [hcl']; exact rc
        have := row_cut h1 (l := k) (h := (strsV cs).length) (by omega) (Nat.le_refl _)
        rwa [List.take_length, hcl', ← strsV_drop] at this
      have hdl : (strsV (cs.drop k)).length = xs.length - k := by rw [strsV_length, List.length_drop, hcl]
      refine rs2.len u_strs (does_of (run_lt w2) (condP_of (fun hlt2 => ?_) fun hge2 => ?_))
      · rw [hdl] at hlt2
        have hlt2 : j < xs.length - k := by simp at hlt2; omega
        have hcr : cs[r]'(by omega) = xs[r]'(by omega) ∧ cs[r - 1]'(by omega) = xs[r - 1]'(by omega) := by
          have e1 : (cs.drop (r - 1))[1]'(by simp; omega) = (xs.drop (r - 1))[1]'(by simp; omega) := by simp only [hdr]
          have e2 : (cs.drop (r - 1))[0]'(by simp; omega) = (xs.drop (r - 1))[0]'(by simp; omega) := by simp only [hdr]
          simp only [List.getElem_drop] at e1 e2
          exact ⟨by simpa [show r - 1 + 1 = r by omega] using e1, by simpa using e2⟩
        refine q79_11 (Ext w2) (Ext.drawn _) fun _ => ?_
        refine q_index rs2 u_strs sz_str (by omega) fun p hp => q_load agg_str hp ?_
        refine q_of (run_sub (by omega) (by omega)) ?_
        rw [show ((j : Int) - 1) = ((j - 1 : Nat) : Int) by omega]
        refine q_index rs2 u_strs sz_str (by omega) fun p hp => q_load agg_str hp ?_
        rw [strsV_get (by simp; omega), strsV_get (by simp; omega)]
        simp only [List.getElem_drop]
        have hkj : k + j = r := hr.symm
        have hkj1 : k + (j - 1) = r - 1 := by omega
        simp only [hkj, hkj1, hcr.1, hcr.2]
        refine q_of run_neS fun W3 hW3 _ => condP_of (fun hne => ?_) fun heq => ?_
        · have hne : xs[r]'(by omega) ≠ xs[r - 1]'(by omega) := by simpa using hne
          refine (rs2.ext hW3).index u_strs sz_str (by omega) fun p hp2 => does_load1 agg_str hp2 ?_
          rw [strsV_get (by simp; omega)]
          simp only [List.getElem_drop, hkj, hcr.1]
          have oc3 := oc.ext hW3
          refine oc3.indexAt u_strs sz_str (by rw [hcl']; omega) fun g hg hbg hcell => ?_
          refine does_of (run_store1 sz_str rfl rfl hcell (oc3.notFrozen hg)) ?_
          refine does_of (run_add (by omega) (by omega) _) (does_of (run_add (by omega) (by omega) _) ?_)
          refine hnext2 (k3 + 1, j + 1, cs.set k3 (xs[r]'(by omega))) _ _ _ (by simp) (by simp) ⟨r + 1, by simp only; omega, by simp, by omega, by simp only; omega, ?_, by simpa using hcl, ?_, ?_, ?_, ?_⟩ (by simp only; omega)
          · have := oc3.setCell (x := .string (xs[r]'(by omega))) hg (i := k3) (by rw [hcl']; omega)
            simpa [strsV, List.map_set] using this
          · refine hM.trans ((Mod.ofExt hW3).trans ?_)
            rw [hg]
            exact Mod.setCell _ _ _ _
          · simp only
            rw [List.take_succ_eq_append_getElem (by simp; omega), List.take_set_of_le (Nat.le_refl _), List.getElem_set_self]
            exact strict_snoc hsc fun y hy => lt_next hs (by omega) (by omega) hne ((hmem y).1 hy)
          · intro x
            simp only
            rw [List.take_succ_eq_append_getElem (by simp; omega), List.take_set_of_le (Nat.le_refl _), List.getElem_set_self, List.take_succ_eq_append_getElem (by omega), List.mem_append, List.mem_append, hmem x]
          · simp only
            rw [show r + 1 - 1 = r by omega, List.drop_set_of_lt (by omega)]
            have := congrArg (List.drop 1) hdr
            simpa [List.drop_drop, show r - 1 + 1 = r by omega] using this
        · have heq : xs[r]'(by omega) = xs[r - 1]'(by omega) := by simpa using heq
          refine does_of (run_add (by omega) (by omega) _) ?_
          refine hnext2 (k3, j + 1, cs) _ _ _ rfl (by simp) ⟨r + 1, by simp only; omega, by simp, by omega, by simp only; omega, oc.ext hW3, hcl, hM.trans (Mod.ofExt hW3), hsc, ?_, ?_⟩ (by simp only; omega)
          · intro x
            simp only
            rw [hmem x, List.take_succ_eq_append_getElem (by omega), List.mem_append]
            constructor
            · exact .inl
            · rintro (h | h)
              · exact h
              · rw [List.mem_singleton.1 h, heq]
                exact List.mem_take_iff_getElem.2 ⟨r - 1, by omega, rfl⟩
          · simp only
            rw [show r + 1 - 1 = r by omega]
            have := congrArg (List.drop 1) hdr
            simpa [List.drop_drop, show r - 1 + 1 = r by omega] using this
      · rw [hdl] at hge2
        have hrn : r = xs.length := by simp at hge2; omega
        subst hrn
        have oc' : Own w2 base 9 (.slice a cs.length c) (strsV cs) := by rw [hcl]; exact oc
        rw [show xs.length = cs.length from hcl.symm]
        refine does_of (run_from u_strs sz_str (by omega) w2) ?_
        obtain ⟨w3, hcr, oc3, hM3⟩ := run_clear_row oc' (k := k3) (by omega)
        refine does_of hcr ?_
        refine does_of (run_upto u_strs sz_str (by omega) w3) ⟨?_, by cases a <;> rfl, ?_⟩
        · have : cs.take k3 = usort xs := usort_of hsc (by intro x; rw [hmem x, List.take_length])
          rw [← this]
          exact oc3
        · rw [hcl] at hM3 ⊢
          exact hM.trans hM3
    · have hne : xs[k] ≠ xs[k - 1] := by simpa using hne
      refine does_of (run_add (by omega) (by omega) _) (hnext (k + 1) _ _ (by simp) ⟨by omega, by omega, hE.trans hW, ?_⟩ (by omega))
      rw [List.take_succ_eq_append_getElem hlt]
      exact strict_snoc hst fun y hy => lt_next hs hk1 hlt hne hy
  · simp at hge2
    have : k = xs.length := by omega
    subst this
    rw [List.take_length] at hst
    rw [whole hst]
    exact ⟨ho.ext hE, rfl, Mod.ofExt hE⟩
/-- wire.Unique -/
theorem unique_spec {w0 : World} {a : Value} {xs : List ByteArray} (ha : Row w0 a (strsV xs)) (hl : xs.length ≤ 1099511627776) :
    Call Try.prog 58 #[a] w0 fun v w' => Own w' w0.heap.size 9 v (strsV (usort xs)) ∧ Ext w0 w' := by
  apply vc58
  unfold V58
  refine (sort_spec _ (Nat.le_refl _) ha hl).mono fun v w1 ⟨h1, h2⟩ => ?_
  refine (compact_spec h1 (sortS_sorted _)).mono fun u w2 ⟨h3, h4, h5⟩ => ⟨?_, h5.ext h2 h1.ge⟩
  rwa [usort_congr (fun x => mem_sortS)] at h3

theorem usort_snoc {l : List ByteArray} {x : ByteArray} {zs : List ByteArray} (hz : Strict zs) (h : ∀ y, y ∈ zs ↔ y ∈ l ∨ y = x) : zs = usort (l ++ [x]) :=
  usort_of hz fun y => by rw [h y, List.mem_append, List.mem_singleton]
theorem rowOwn_keep {g : Option Nat} {W W' : World} {base : Nat} {e : TypeId} {v : Value} {xs : List Value} (hM : Mod g W W') (ho : Own W base e v xs) (hg : ∀ k, g = some k → k < base) : Own W' base e v xs := by
  refine hM.own ho ?_
  cases hv : v.ownBlock with
  | none => exact .inl rfl
  | some b =>
    refine .inr fun h => ?_
    have := (ho.lt b hv).1
    have := hg b h.symm
    omega
theorem mu_insert {J : VF 1} {w0 W : World} {a out : Value} {xs ys : List ByteArray} {i k : Nat} (ha : Row w0 a (strsV xs)) (hlt : i < xs.length) (hE : Ext w0 W) (ho : Own W w0.heap.size 9 out (strsV ys)) (hk : k ≤ ys.length) (hl : ys.length ≤ 1099511627776)
    (hJ : ∀ v W', Own W' w0.heap.size 9 v (strsV (ys.take k ++ xs[i] :: ys.drop k)) → Ext w0 W' → J v W') :
    DrawP Try.prog 59 (opsOf Try.f13 9) [0, 3, 4, 5] [a, out, .int .i64 i, .int .i64 k] [3] J W := by
  obtain ⟨oa, oc, rfl, ⟨_, hnc⟩, _⟩ := id ho.row
  simp at hnc
  have hyl : (strsV ys).length = ys.length := strsV_length ys
  have hgo : ∀ b, (Value.slice oa (strsV ys).length oc).ownBlock = some b → b < W.heap.size := fun b hb => (ho.lt b hb).2
  refine p13_9 Ext (Grow w0.heap.size) (fun n W' => Ext w0 W' ∧ W.heap.size ≤ W'.heap.size ∧ (n = 0 → Ext W W'))
    (fun v W' => v = .slice oa k oc) (fun v W' => ∃ p, v = .pointer (some p) ∧ w0.cell? p = some (.string xs[i])) (fun v W' => v = .string xs[i])
    (fun v W' => Own W' W.heap.size 9 v (strsV [xs[i]]) ∧ ∃ b, v = .slice (some b) 1 1) (fun v W' => v = .slice (if oc = k then oa else oa.map (·.add k)) ((strsV ys).length - k) (oc - k))
    (fun v W' => Own W' W.heap.size 9 v (strsV (xs[i] :: ys.drop k))) (fun v W' => Own W' w0.heap.size 9 v (strsV (ys.take k ++ xs[i] :: ys.drop k)))
    Ext.refl (fun A B h => Grow.ofExt h) (Grow.refl _) (fun A B D => Grow.trans) (FSt.pure _) (FSt.pure _) (FSt.pure _) (fun v A B h ⟨h1, h2⟩ => ⟨h1.ext h, h2⟩) (FSt.pure _) (FSt.own _ _ _) (FSt.own _ _ _) ?_ ?_ ?_ ?_ ?_ ?_ ?_ ?_ ?_
  · exact ⟨hE.trans (Ext.drawn W), Nat.le_refl _, fun _ => Ext.drawn W⟩
  · intro W' _ hC
    exact does_of (run_upto u_strs sz_str (by omega) W') ⟨Ext.refl _, hC, rfl⟩
  · intro n _ _ W' _ hC
    exact ha.index u_strs sz_str (by rw [strsV_length]; exact hlt) fun p hp => ⟨Ext.refl _, hC, p, rfl, by rw [hp, strsV_get hlt]⟩
  · rintro v n _ _ W' _ hC ⟨p, rfl, hp⟩
    exact does_load1 agg_str (hC.1.cell hp) ⟨Ext.refl _, hC, rfl⟩
  · rintro v n _ _ W' _ hC rfl
    have hA : Ext W' (W'.alloc (.cells #[.string xs[i]] 9)) := (Ext.refl W').alloc _
    exact does_of (run_buildSlice1 u_strs sz_str zero_str rfl rfl W') ⟨hA, ⟨hC.1.trans hA, Nat.le_trans hC.2.1 hA.size, fun h => (hC.2.2 h).trans hA⟩, own_single _ _ hC.2.1, _, rfl⟩
  · intro n _ _ W' _ hC
    exact does_of (run_from u_strs sz_str (by omega) W') ⟨Ext.refl _, hC, rfl⟩
  · rintro v u W' _ hC ⟨hov, b, rfl⟩ rfl
    have hEW := hC.2.2 rfl
    have rd : Row W' (.slice (if oc = k then oa else oa.map (·.add k)) ((strsV ys).length - k) (oc - k)) (strsV (ys.drop k)) := by
      have := row_cut (ho.ext hEW).row (l := k) (h := (strsV ys).length) (by omega) (Nat.le_refl _)
      rwa [List.take_length, ← strsV_drop] at this
    refine append_full u_strs info_str rfl hov.row rd (by simp; omega) (by omega) (fun h => ⟨Ext.refl _, hC, ?_⟩) fun v' w' hov' hE' => ⟨hE', ⟨hC.1.trans hE', Nat.le_trans hC.2.1 hE'.size, fun h => (hC.2.2 h).trans hE'⟩, ?_⟩
    · have : ys.drop k = [] := by simpa [strsV] using h
      rw [this]
      exact hov
    · exact (hov'.mono hC.2.1)
  · rintro v u W' hS hC rfl hou
    have hEW := hC.2.2 rfl
    have ho' : Own W' w0.heap.size 9 (.slice oa k oc) (strsV (ys.take k)) := by
      rw [strsV_take]
      exact own_upto (ho.ext hEW) (by omega)
    refine ho'.append u_strs info_str rfl hou.row (strsV_one _) (by simp; omega) (by omega) hC.1.size fun v' w' hov hg hat => ?_
    have hM : Mod (Value.slice oa k oc).ownBlock W' w' := hg
    have hgr : ∀ b, (Value.slice oa k oc).ownBlock = some b → b < W.heap.size := fun b hb => hgo b (by cases oa <;> exact hb)
    refine ⟨Grow.ofMod hM ho'.ge, ⟨hC.1.grownOwn ho' hg, Nat.le_trans hC.2.1 hM.size, fun h => by cases h⟩, by rw [strsV_append]; exact hov, fun _ h => h, fun _ h => h, fun _ h => h, fun u h => ⟨rowOwn_keep hM h.1 hgr, h.2⟩, fun _ h => h, fun u h => rowOwn_keep hM h hgr, trivial⟩
  · intro v W' _ hC hov
    exact hJ v W' hov hC.1
set_option maxHeartbeats 1000000 in
/-- marref.Unique -/
theorem munique_spec {w0 : World} {a : Value} {xs : List ByteArray} (ha : Row w0 a (strsV xs)) (hl : xs.length ≤ 1099511627776) :
    Call Try.prog 13 #[a] w0 fun v w' => Own w' w0.heap.size 9 v (strsV (usort xs)) ∧ Ext w0 w' := by
  apply vc13
  unfold V13
  refine rounds2 (σ := Value × Nat) (fun t => t.1) (fun t => .int .i64 t.2) (fun t w => t.2 ≤ xs.length ∧ Ext w0 w ∧ Own w w0.heap.size 9 t.1 (strsV (usort (xs.take t.2)))) (fun t _ => xs.length - t.2) (_, 0) rfl rfl ⟨Nat.zero_le _, Ext.refl _, Own.nil _ _ _⟩ ?_
  rintro next ⟨out, i⟩ w ⟨hi, hE, ho⟩ hnext _
  simp only at hi ho ⊢
  have hst := usort_strict (xs.take i)
  have hmem : ∀ y, y ∈ usort (xs.take i) ↔ y ∈ xs.take i := fun y => mem_usort
  have hul : (usort (xs.take i)).length ≤ i := by have := usort_length_le (xs.take i); simp at this; omega
  generalize hys : usort (xs.take i) = ys at ho hst hmem hul
  have fin : xs.length ≤ i → Own w w0.heap.size 9 out (strsV (usort xs)) := by
    intro h
    rw [List.take_of_length_le h] at hys
    rw [hys]
    exact ho
  refine ha.len u_strs (does_of (run_lt w) (condP_of (fun hlt => ?_) fun hge => ⟨fin (by simp at hge; omega), hE⟩))
  simp at hlt
  have hrow := ho.row
  refine hrow.len u_strs ?_
  refine rounds1 (fun k : Nat => .int .i64 k) (fun k w' => k ≤ ys.length ∧ Ext w w' ∧ ∀ j (hj : j < ys.length), k ≤ j → blt ys[j] xs[i] = false) (fun k _ => k) ys.length (by simp) ⟨Nat.le_refl _, Ext.refl _, fun j hj h => by omega⟩ ?_
  rintro next2 k w1 ⟨hk, hE1, hbig⟩ hnext2 _
  have hrow1 := hrow.ext hE1
  have hE01 := hE.trans hE1
  have ha1 := ha.ext hE01
  refine q13_6 (Ext w1) (Ext.drawn _) fun _ => q_of run_gt ?_
  refine and_join (if h : 0 < k then !blt (ys[k - 1]'(by omega)) xs[i] else false) (fun hb j hj => ?_) ?_
  · have hk0 : 0 < k := by simpa using hb
    refine q_of (run_sub (by omega) (by omega)) ?_
    rw [show ((k : Int) - 1) = ((k - 1 : Nat) : Int) by omega]
    refine q_index hrow1 u_strs sz_str (by rw [strsV_length]; omega) fun p hp => q_load agg_str hp ?_
    refine q_index ha1 u_strs sz_str (by rw [strsV_length]; exact hlt) fun p hp => q_load agg_str hp ?_
    rw [strsV_get (by omega), strsV_get hlt]
    refine q_of run_geS ?_
    simpa [hk0] using hj
  intro W hW _
  refine condP_of (fun ht => ?_) fun hf => ?_
  · -- one place further down
    simp only [Bool.and_eq_true, decide_eq_true_eq] at ht
    have hk0 : 0 < k := by have := ht.1; omega
    have h2 := ht.2
    rw [dif_pos hk0] at h2
    refine does_of (run_sub (by omega) (by omega) _) (hnext2 (k - 1) _ _ (by simp; omega) ⟨by omega, hE1.trans hW, fun j hj hkj => ?_⟩ (by omega))
    by_cases hjk : j = k - 1
    · subst hjk; simpa using h2
    · exact hbig j hj (by omega)
  · -- the place is found
    have hsmall : ∀ j (hj : j < ys.length), j < k → blt ys[j] xs[i] = true := by
      intro j hj hjk
      have hk0 : 0 < k := by omega
      simp only [dif_pos hk0] at hf
      have h3 : blt (ys[k - 1]'(by omega)) xs[i] = true := by
        cases h4 : blt (ys[k - 1]'(by omega)) xs[i] with
        | true => rfl
        | false => rw [h4] at hf; simp at hf; omega
      exact ble_lt_trans (sorted_get hst.sorted (i := j) (j := k - 1) (by omega) (by omega)) h3
    have hE02 := hE01.trans hW
    have ho2 := (ho.ext hE1).ext hW
    have ha2 := ha.ext hE02
    refine q13_8 (Ext W) (Ext.drawn _) fun _ => q_len ho2.row u_strs (q_of run_lt ?_)
    refine and_join (if h : k < ys.length then decide (ys[k] = xs[i]) else false) (fun hb j hj => ?_) ?_
    · have hkl : k < ys.length := by simpa using hb
      refine q_index ho2.row u_strs sz_str (by rw [strsV_length]; exact hkl) fun p hp => q_load agg_str hp ?_
      refine q_index ha2 u_strs sz_str (by rw [strsV_length]; exact hlt) fun p hp => q_load agg_str hp ?_
      rw [strsV_get hkl, strsV_get hlt]
      refine q_of run_eqS ?_
      simpa [hkl] using hj
    intro W2 hW2 _
    have hE03 := hE02.trans hW2
    refine condP_of (fun ht => ?_) fun hf => ?_
    · simp only [Bool.and_eq_true, decide_eq_true_eq] at ht
      have hkl : k < ys.length := by have := ht.1; simp at this; exact this
      have h2 := ht.2
      rw [dif_pos hkl] at h2
      have h2 : ys[k] = xs[i] := by simpa using h2
      refine does_of (run_add (by omega) (by omega) _) (hnext (out, i + 1) _ _ _ rfl (by simp) ⟨by simp only; omega, hE03, ?_⟩ (by simp only; omega))
      simp only
      rw [List.take_succ_eq_append_getElem hlt, ← usort_snoc hst fun y => ?_]
      · exact ho2.ext hW2
      · rw [hmem y]
        constructor
        · exact .inl
        · rintro (h | rfl)
          · exact h
          · exact (hmem _).1 (h2 ▸ List.getElem_mem hkl)
    · have hgt : ∀ j (hj : j < ys.length), k ≤ j → blt xs[i] ys[j] = true := by
        intro j hj hkj
        have hkl : k < ys.length := by omega
        simp only [dif_pos hkl] at hf
        have hne : ys[k] ≠ xs[i] := by simpa [hkl] using hf
        have h5 : blt xs[i] ys[k] = true := by
          cases h6 : blt xs[i] ys[k] with
          | true => rfl
          | false => exact absurd (blt_total (hbig k hkl (Nat.le_refl _)) h6) hne
        by_cases hjk : j = k
        · subst hjk; exact h5
        · exact blt_trans h5 ((List.pairwise_iff_getElem.1 hst) k j hkl hj (by omega))
      refine mu_insert (xs := xs) (i := i) (k := k) ha hlt hE03 (ho2.ext hW2) hk (by omega) fun v W3 hov hE04 _ => ?_
      refine does_of (run_add (by omega) (by omega) _) (hnext (v, i + 1) _ _ _ rfl (by simp) ⟨by simp only; omega, hE04, ?_⟩ (by simp only; omega))
      simp only
      rw [List.take_succ_eq_append_getElem hlt, ← usort_snoc (l := xs.take i) (x := xs[i]) (zs := ys.take k ++ xs[i] :: ys.drop k) ?_ fun y => ?_]
      · exact hov
      · have hd : Strict (ys.take k ++ ys.drop k) := by rw [List.take_append_drop]; exact hst
        obtain ⟨h1, h2, h3⟩ := strict_append.1 hd
        refine strict_append.2 ⟨h1, List.pairwise_cons.2 ⟨fun y hy => ?_, h2⟩, fun y hy z hz => ?_⟩
        · obtain ⟨j, hj, rfl⟩ := List.mem_iff_getElem.1 hy
          simp only [List.length_drop] at hj
          rw [List.getElem_drop]
          exact hgt _ (by omega) (by omega)
        · rcases List.mem_cons.1 hz with rfl | hz
          · obtain ⟨j, hj, rfl⟩ := List.mem_iff_getElem.1 hy
            simp only [List.length_take] at hj
            rw [List.getElem_take]
            exact hsmall _ (by omega) (by omega)
          · exact h3 y hy z hz
      · have : y ∈ ys ↔ y ∈ ys.take k ∨ y ∈ ys.drop k := by rw [← List.mem_append, List.take_append_drop]
        rw [List.mem_append, List.mem_cons, ← hmem y, this]
        constructor
        · rintro (h | h | h) <;> simp [h]
        · rintro ((h | h) | h) <;> simp [h]
end Go.Proofs.Ytcncgkkilgmphaa
