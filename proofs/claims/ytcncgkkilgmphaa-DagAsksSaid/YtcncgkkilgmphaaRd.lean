/-
  Contracts of the document's graph: is one an ancestor, tops, bases, order.
-/
import Derived.Test.YtcncgkkilgmphaaRc
set_option linter.unusedVariables false
set_option linter.unusedSimpArgs false
namespace Go.Proofs.Ytcncgkkilgmphaa
open Go Go.RowKit

theorem set_le {p : ByteArray → Prop} {L : List ByteArray} {G : List Cm} (h : SetOf p L) (hp : ∀ k, p k → k ∈ idsOf G) : L.length ≤ G.length := by
  have := nodup_le h.1.nodup (m := idsOf G) fun k hk => hp k ((h.2 k).1 hk)
  rwa [idsOf_length] at this
theorem rset_le {G : List Cm} {ids L : List ByteArray} {K : Nat} (hA : RAsk G K) (h : if known G ids then SetOf (Anc G ids) L else L = []) : L.length ≤ G.length := by
  by_cases hk : known G ids = true
  · rw [if_pos hk] at h
    exact set_le h fun k hx => hx.known hA.topo.closed hk
  · rw [if_neg hk] at h
    rw [h]; simp
theorem ris_spec {w : World} {T : Nat → Prop} {v : Value} {G : List Cm} {a b : ByteArray} {K : Nat} {p : Prop} [Decidable p] (h : RG w T v G) (hA : RAsk G K) (hp : p ↔ (b ∈ idsOf G ∧ Anc G [b] a)) :
    Call Try.prog 41 #[v, .string a, .string b] w fun r w' => r = .bool (decide p) ∧ Ext w w' := by
  apply vc41
  unfold V41
  refine does_of (run_buildSlice1 u_strs sz_str zero_str rfl rfl w) ?_
  have hA0 : Ext w (w.alloc (.cells #[.string b] 9)) := (Ext.refl w).alloc _
  have rN : Row (w.alloc (.cells #[.string b] 9)) (.slice (some ⟨w.heap.size, 0, none⟩) 1 1) (strsV [b]) := (own_single (base := 0) 9 (.string b) (Nat.zero_le _)).row
  have hkb : known G [b] = true ↔ b ∈ idsOf G := by simp [known]
  refine (rancestors_spec (h.ext hA0) rN hA).mono fun r w1 ⟨hE, s, L, hv, ho, hL⟩ => ?_
  subst hv
  refine ext_2a (ext_2b (does_of (run_eqI w1) ?_))
  have hE1 := hA0.trans hE
  by_cases hk : known G [b] = true
  · rw [if_pos hk] at hL
    simp only [hk, if_true]
    refine and_joinW (fun W => Ext w W) (memB a L) hE1 (fun _ j hj => ?_) fun W hW => ⟨?_, hW⟩
    · exact (has_spec ho.row).mono fun u W2 ⟨hu, hE2⟩ => by subst hu; exact hj W2 (hE1.trans hE2)
    · have : memB a L = decide p := by
        rw [Bool.eq_iff_iff, memB_iff, decide_eq_true_eq, hp, hL.2 a]
        exact ⟨fun h => ⟨hkb.1 hk, h⟩, fun h => h.2⟩
      simp [this]
  · simp only [hk, if_false]
    refine and_joinW (fun W => Ext w W) false hE1 (fun hh j hj => by simp at hh) fun W hW => ⟨?_, hW⟩
    have : ¬ p := fun hh => hk (hkb.2 (hp.1 hh).1)
    simp [this]
structure TopSt where
  ov : Value
  i : Nat
  out : List ByteArray
set_option maxHeartbeats 1000000 in
theorem rtops_spec {w : World} {T : Nat → Prop} {v iv : Value} {G : List Cm} {ids : List ByteArray} {K : Nat} (h : RG w T v G) (hr : Row w iv (strsV ids)) (hA : RAsk G K) (hK : K ≤ 1099511627776) (hil : ids.length ≤ 1048576) :
    Call Try.prog 37 #[v, iv] w fun r w' => Ext w w' ∧ ∃ s L, r = .tuple #[s, .int .i64 (if known G ids then 0 else 7)] ∧ Own w' w.heap.size 9 s (strsV L) ∧
      if known G ids then SetOf (fun k => k ∈ ids ∧ ¬ ∃ i ∈ ids, Anc G (par G i) k) L else L = [] := by
  apply vc37
  unfold V37
  have hgl := hA.g
  have hsm : ∀ c ∈ G, c.ps.length ≤ 1099511627776 := fun c hc => Nat.le_trans (hA.small c hc) hK
  refine rounds2 (σ := TopSt) (fun t => t.ov) (fun t => .int .i64 (t.i : Nat)) (fun t W => t.i ≤ ids.length ∧ Ext w W ∧ Own W w.heap.size 9 t.ov (strsV t.out) ∧ t.out.length ≤ t.i * G.length ∧ known G (ids.take t.i) = true ∧ (∀ k, k ∈ t.out ↔ ∃ i ∈ ids.take t.i, Anc G (par G i) k)) (fun t _ => ids.length - t.i)
    ⟨_, 0, []⟩ rfl rfl ⟨by simp, Ext.refl _, Own.nil _ _ _, by simp, by simp [known], by simp⟩ ?_
  rintro next ⟨ov, i, out⟩ W ⟨hi, hE, ho, hol, hkn, hmem⟩ hnext _
  simp only at hi hE ho hol hkn hmem ⊢
  have hiG : (i + 1) * G.length ≤ 1048576 * 1048576 ∨ ids.length ≤ i := by
    rcases Nat.lt_or_ge i ids.length with h1 | h1
    · exact .inl (Nat.mul_le_mul (by omega) hgl)
    · exact .inr h1
  refine (hr.ext hE).len u_strs (does_lt (condP_of (fun hlt => ?_) fun hge => ?_))
  · have hlt' : i < ids.length := by simpa using hlt
    refine (hr.ext hE).index u_strs sz_str (by simpa using hlt') fun p hp => does_load1 agg_str hp ?_
    rw [strsV_get hlt']
    refine (rhas_spec (h.ext hE)).mono fun u W2 ⟨hu, hW2⟩ => ?_
    subst hu
    rw [hW2]
    refine does_not (condP_of (fun hno => ?_) fun hyes => ?_)
    · simp only [Bool.not_eq_true', decide_eq_false_iff_not] at hno
      have : ¬ known G ids = true := fun hk => hno (known_iff.1 hk _ (by simp))
      exact ⟨hE, .slice none 0 0, [], by simp [this], Own.nil _ _ _, by simp [this]⟩
    · simp only [Bool.not_eq_false', decide_eq_true_eq] at hyes
      refine (hr.ext hE).index u_strs sz_str (by simpa using hlt') fun p hp => does_load1 agg_str hp ?_
      rw [strsV_get hlt']
      refine (rparents_spec (h.ext hE) hsm).mono fun u W3 ⟨ho3, hE3⟩ => ?_
      have hkp : known G (par G ids[i]) = true := known_iff.2 fun p hp => par_known hA.topo.closed hp
      have hE03 := hE.trans hE3
      refine (rancestors_spec (h.ext hE03) ho3.row hA).mono fun u W4 ⟨hE4, s, L, hu, ho4, hL⟩ => ?_
      subst hu
      have hLl := rset_le hA hL
      rw [if_pos hkp] at hL
      have hE04 := hE03.trans hE4
      have hi1 : (i + 1) * G.length = i * G.length + G.length := Nat.succ_mul _ _
      refine ext_2a (ext_2b (((ho.ext hE3).ext hE4).append u_strs info_str rfl ho4.row (strsV_one _) (by simp only [strsV_length]; omega) (by omega) hE04.size fun v5 W5 ho5 hg5 _ => ?_))
      refine does_add (by omega) (by omega) (hnext ⟨v5, i + 1, out ++ L⟩ _ _ W5 rfl (by simp) ⟨by simp only; omega, hE04.grownOwn ((ho.ext hE3).ext hE4) hg5, by rw [strsV_append]; exact ho5, by simp only [List.length_append]; omega, ?_, ?_⟩ (by simp only; omega))
      · simp only
        rw [take_succ hlt']
        unfold known at hkn ⊢
        rw [List.all_append, hkn]
        simp [hyes]
      · intro k
        simp only
        rw [take_succ hlt', List.mem_append, hmem k, hL.2 k]
        constructor
        · rintro (⟨j, h1, h2⟩ | h1)
          · exact ⟨j, List.mem_append.2 (.inl h1), h2⟩
          · exact ⟨ids[i], List.mem_append.2 (.inr (List.mem_singleton.2 rfl)), h1⟩
        · rintro ⟨j, h1, h2⟩
          rcases List.mem_append.1 h1 with h1 | h1
          · exact .inl ⟨j, h1, h2⟩
          · rw [List.mem_singleton.1 h1] at h2; exact .inr h2
  · have hie : i = ids.length := by
      have : ¬ i < ids.length := by simpa using hge
      omega
    subst hie
    rw [List.take_length] at hkn hmem
    have hol2 : out.length ≤ 1048576 * 1048576 := Nat.le_trans hol (Nat.mul_le_mul hil hgl)
    refine (munique_spec ho.row (by omega)).mono fun u W2 ⟨ho2, hE2⟩ => ?_
    have hE02 := hE.trans hE2
    simp only [hkn, if_true]
    refine rounds2 (σ := TopSt) (fun t => t.ov) (fun t => .int .i64 (t.i : Nat)) (fun t W => t.i ≤ ids.length ∧ Ext W2 W ∧ Own W W2.heap.size 9 t.ov (strsV t.out) ∧ t.out.length ≤ t.i ∧ (∀ k, k ∈ t.out ↔ k ∈ ids.take t.i ∧ k ∉ out)) (fun t _ => ids.length - t.i)
      ⟨_, 0, []⟩ rfl rfl ⟨by simp, Ext.refl _, Own.nil _ _ _, by simp, by simp⟩ ?_
    rintro next2 ⟨ov2, i2, out2⟩ W3 ⟨hi2, hE3, ho3, hol3, hmem3⟩ hnext2 _
    simp only at hi2 hE3 ho3 hol3 hmem3 ⊢
    have hE03 := hE02.trans hE3
    refine (hr.ext hE03).len u_strs (does_lt (condP_of (fun hlt => ?_) fun hge2 => ?_))
    · have hlt' : i2 < ids.length := by simpa using hlt
      refine (hr.ext hE03).index u_strs sz_str (by simpa using hlt') fun p hp => does_load1 agg_str hp ?_
      rw [strsV_get hlt']
      refine (has_spec (ho2.row.ext hE3)).mono fun u2 W4 ⟨hu2, hE4⟩ => ?_
      subst hu2
      have hmu : memB ids[i2] (usort out) = true ↔ ids[i2] ∈ out := memB_iff.trans mem_usort
      have hE04 := hE03.trans hE4
      refine does_not (condP_of (fun hno => ?_) fun hyes => ?_)
      · have hno' : ids[i2] ∉ out := fun hh => by rw [hmu.2 hh] at hno; cases hno
        refine (hr.ext hE04).index u_strs sz_str (by simpa using hlt') fun p hp => does_load1 agg_str hp ?_
        rw [strsV_get hlt']
        refine does_of (run_buildSlice1 u_strs sz_str zero_str rfl rfl W4) ?_
        have hAl : Ext W4 (W4.alloc (.cells #[.string ids[i2]] 9)) := (Ext.refl W4).alloc _
        have rN : Row (W4.alloc (.cells #[.string ids[i2]] 9)) (.slice (some ⟨W4.heap.size, 0, none⟩) 1 1) (strsV [ids[i2]]) := (own_single (base := 0) 9 (.string ids[i2]) (Nat.zero_le _)).row
        refine ((ho3.ext hE4).ext hAl).append u_strs info_str rfl rN (strsV_one _) (by simp; omega) (by omega) ((hE3.trans hE4).trans hAl).size fun v5 W5 ho5 hg5 _ => ?_
        refine does_add (by omega) (by omega) (hnext2 ⟨v5, i2 + 1, out2 ++ [ids[i2]]⟩ _ _ W5 rfl (by simp) ⟨by simp only; omega, ((hE3.trans hE4).trans hAl).grownOwn ((ho3.ext hE4).ext hAl) hg5, by rw [strsV_append]; exact ho5, by simp only [List.length_append, List.length_singleton]; omega, fun k => ?_⟩ (by simp only; omega))
        simp only
        rw [take_succ hlt', List.mem_append, List.mem_append, hmem3 k, List.mem_singleton]
        constructor
        · rintro (⟨h1, h2⟩ | h1)
          · exact ⟨.inl h1, h2⟩
          · rw [h1]; exact ⟨.inr rfl, hno'⟩
        · rintro ⟨h1 | h1, h2⟩
          · exact .inl ⟨h1, h2⟩
          · exact .inr h1
      · have hyes' : ids[i2] ∈ out := hmu.1 (by simpa using hyes)
        refine does_add (by omega) (by omega) (hnext2 ⟨ov2, i2 + 1, out2⟩ _ _ W4 rfl (by simp) ⟨by simp only; omega, hE3.trans hE4, ho3.ext hE4, by simp only; omega, fun k => ?_⟩ (by simp only; omega))
        simp only
        rw [take_succ hlt', List.mem_append, hmem3 k, List.mem_singleton]
        constructor
        · rintro ⟨h1, h2⟩; exact ⟨.inl h1, h2⟩
        · rintro ⟨h1 | h1, h2⟩
          · exact ⟨h1, h2⟩
          · rw [h1] at h2; exact absurd hyes' h2
    · have hie : i2 = ids.length := by
        have : ¬ i2 < ids.length := by simpa using hge2
        omega
      subst hie
      rw [List.take_length] at hmem3
      refine (munique_spec ho3.row (by omega)).mono fun u2 W4 ⟨ho4, hE4⟩ => ⟨hE03.trans hE4, u2, _, rfl, ho4.mono hE03.size, usort_strict out2, fun k => ?_⟩
      rw [mem_usort, hmem3 k, hmem k]
set_option maxHeartbeats 1000000 in
theorem rbases_spec {w : World} {T : Nat → Prop} {v iv : Value} {G : List Cm} {ids : List ByteArray} {b : ByteArray} {K : Nat} (h : RG w T v G) (hr : Row w iv (strsV ids)) (hA : RAsk G K) (hK : K ≤ 1099511627776) :
    Call Try.prog 35 #[v, iv, .string b] w fun r w' => Ext w w' ∧ ∃ s L, r = .tuple #[s, .int .i64 (if known G (b :: ids) then 0 else 7)] ∧ Own w' w.heap.size 9 s (strsV L) ∧
      if known G (b :: ids) then SetOf (fun k => (Anc G ids k ∧ Anc G [b] k) ∧ ¬ ∃ i, (Anc G ids i ∧ Anc G [b] i) ∧ Anc G (par G i) k) L else L = [] := by
  apply vc35
  unfold V35
  have hgl := hA.g
  have hcl := hA.topo.closed
  refine (rancestors_spec h hr hA).mono fun r w1 ⟨hE1, s1, L1, hv1, ho1, hL1⟩ => ?_
  subst hv1
  refine ext_2a (ext_2b (does_of (run_buildSlice1 u_strs sz_str zero_str rfl rfl w1) ?_))
  have hA0 : Ext w1 (w1.alloc (.cells #[.string b] 9)) := (Ext.refl w1).alloc _
  have rN : Row (w1.alloc (.cells #[.string b] 9)) (.slice (some ⟨w1.heap.size, 0, none⟩) 1 1) (strsV [b]) := (own_single (base := 0) 9 (.string b) (Nat.zero_le _)).row
  refine (rancestors_spec (h.ext (hE1.trans hA0)) rN hA).mono fun r w2 ⟨hE2, s2, L2, hv2, ho2, hL2⟩ => ?_
  subst hv2
  have hE02 := (hE1.trans hA0).trans hE2
  have hl1 := rset_le hA hL1
  have hl2 := rset_le hA hL2
  refine ext_2a (ext_2b (does_of (run_neI w2) ?_))
  have hkk : known G (b :: ids) = (known G ids && known G [b]) := by
    unfold known
    simp [Bool.and_comm]
  have fail : known G (b :: ids) = false → ∃ s L, (Value.tuple #[Value.slice none 0 0, .int .i64 7]) = .tuple #[s, .int .i64 (if known G (b :: ids) then 0 else 7)] ∧ Own w2 w.heap.size 9 s (strsV L) ∧
      if known G (b :: ids) then SetOf (fun k => (Anc G ids k ∧ Anc G [b] k) ∧ ¬ ∃ i, (Anc G ids i ∧ Anc G [b] i) ∧ Anc G (par G i) k) L else L = [] := fun hf => ⟨_, [], by simp [hf], Own.nil _ _ _, by simp [hf]⟩
  refine or_join (!decide ((if known G [b] = true then (0 : Int) else 7) = 0)) (fun _ j hj => does_of (run_neI w2) hj) ?_
  refine condP_of (fun hbad => ?_) fun hok => ?_
  · refine ⟨hE02, fail ?_⟩
    rw [hkk]
    cases h1 : known G ids <;> cases h2 : known G [b] <;> simp_all
  have hok' : known G ids = true ∧ known G [b] = true := by
    cases h1 : known G ids <;> cases h2 : known G [b] <;> simp_all
  rw [if_pos hok'.1] at hL1
  rw [if_pos hok'.2] at hL2
  have hkt : known G (b :: ids) = true := by rw [hkk, hok'.1, hok'.2]; rfl
  simp only [hkt, if_true]
  have rL1 := ho1.row.ext (hA0.trans hE2)
  refine rounds2 (σ := TopSt) (fun t => t.ov) (fun t => .int .i64 (t.i : Nat)) (fun t W => t.i ≤ L1.length ∧ Ext w2 W ∧ Own W w2.heap.size 9 t.ov (strsV t.out) ∧ t.out.length ≤ t.i ∧ (∀ k, k ∈ t.out ↔ k ∈ L1.take t.i ∧ k ∈ L2)) (fun t _ => L1.length - t.i)
    ⟨_, 0, []⟩ rfl rfl ⟨by simp, Ext.refl _, Own.nil _ _ _, by simp, by simp⟩ ?_
  rintro next ⟨ov, i, out⟩ W ⟨hi, hE, ho, hol, hmem⟩ hnext _
  simp only at hi hE ho hol hmem ⊢
  refine (rL1.ext hE).len u_strs (does_lt (condP_of (fun hlt => ?_) fun hge => ?_))
  · have hlt' : i < L1.length := by simpa using hlt
    refine (rL1.ext hE).index u_strs sz_str (by simpa using hlt') fun p hp => does_load1 agg_str hp ?_
    rw [strsV_get hlt']
    refine (has_spec (ho2.row.ext hE)).mono fun u W4 ⟨hu, hE4⟩ => ?_
    subst hu
    refine condP_of (fun hin => ?_) fun hout => ?_
    · have hin' := memB_iff.1 hin
      refine (rL1.ext (hE.trans hE4)).index u_strs sz_str (by simpa using hlt') fun p hp => does_load1 agg_str hp ?_
      rw [strsV_get hlt']
      refine does_of (run_buildSlice1 u_strs sz_str zero_str rfl rfl W4) ?_
      have hAl : Ext W4 (W4.alloc (.cells #[.string L1[i]] 9)) := (Ext.refl W4).alloc _
      have rN : Row (W4.alloc (.cells #[.string L1[i]] 9)) (.slice (some ⟨W4.heap.size, 0, none⟩) 1 1) (strsV [L1[i]]) := (own_single (base := 0) 9 (.string L1[i]) (Nat.zero_le _)).row
      refine ((ho.ext hE4).ext hAl).append u_strs info_str rfl rN (strsV_one _) (by simp; omega) (by omega) ((hE.trans hE4).trans hAl).size fun v5 W5 ho5 hg5 _ => ?_
      refine does_add (by omega) (by omega) (hnext ⟨v5, i + 1, out ++ [L1[i]]⟩ _ _ W5 rfl (by simp) ⟨by simp only; omega, ((hE.trans hE4).trans hAl).grownOwn ((ho.ext hE4).ext hAl) hg5, by rw [strsV_append]; exact ho5, by simp only [List.length_append, List.length_singleton]; omega, fun k => ?_⟩ (by simp only; omega))
      simp only
      rw [take_succ hlt', List.mem_append, List.mem_append, hmem k, List.mem_singleton]
      constructor
      · rintro (⟨h1, h2⟩ | h1)
        · exact ⟨.inl h1, h2⟩
        · rw [h1]; exact ⟨.inr rfl, hin'⟩
      · rintro ⟨h1 | h1, h2⟩
        · exact .inl ⟨h1, h2⟩
        · exact .inr h1
    · have hout' := memB_false.1 hout
      refine does_add (by omega) (by omega) (hnext ⟨ov, i + 1, out⟩ _ _ W4 rfl (by simp) ⟨by simp only; omega, hE.trans hE4, ho.ext hE4, by simp only; omega, fun k => ?_⟩ (by simp only; omega))
      simp only
      rw [take_succ hlt', List.mem_append, hmem k, List.mem_singleton]
      constructor
      · rintro ⟨h1, h2⟩; exact ⟨.inl h1, h2⟩
      · rintro ⟨h1 | h1, h2⟩
        · exact ⟨h1, h2⟩
        · rw [h1] at h2; exact absurd h2 hout'
  · have hie : i = L1.length := by
      have : ¬ i < L1.length := by simpa using hge
      omega
    subst hie
    rw [List.take_length] at hmem
    have hmem2 : ∀ k, k ∈ out ↔ Anc G ids k ∧ Anc G [b] k := fun k => by rw [hmem k, hL1.2 k, hL2.2 k]
    have hko : known G out = true := known_iff.2 fun k hk => ((hmem2 k).1 hk).1.known hcl hok'.1
    refine (rtops_spec (h.ext (hE02.trans hE)) ho.row hA hK (by omega)).mono fun u W4 ⟨hE4, s, L, hu, ho4, hL⟩ => ?_
    subst hu
    simp only [hko, if_true] at hL ⊢
    refine ext_2a (ext_2b ⟨(hE02.trans hE).trans hE4, s, L, rfl, ho4.mono (hE02.trans hE).size, hL.1, fun k => (hL.2 k).trans ?_⟩)
    simp only [hmem2]
end Go.Proofs.Ytcncgkkilgmphaa
