/-
  Contracts: slices.IndexFunc and slices.DeleteFunc over texts; the graph's answers but the order.
-/
import Derived.Test.YtcncgkkilgmphaaDh
set_option linter.unusedVariables false
set_option linter.unusedSimpArgs false
namespace Go.Proofs.Ytcncgkkilgmphaa
open Go Go.RowKit

theorem rounds0 {B : VF 0 → VF 0} {σ : Type} (I : σ → World → Prop) (μ : σ → World → Nat) (s0 : σ) {w : World} (hI : I s0 w)
    (step : ∀ (next : VF 0) (s : σ) (w : World), I s w → (∀ (s' : σ) (w' : World), I s' w' → μ s' w' < μ s w → next w') → B next w) : Rounds 0 B w :=
  rounds_ind (k := 0) (fun _ => []) I μ (fun _ => rfl)
    (fun next s w hs hn => step next s w hs fun s' w' hi hm => hn s' [] w' rfl hi hm) s0 (l0 := []) rfl hI

/-! ### 1. functions over texts with a function value -/
theorem indexFunc_spec {w0 : World} {s cl : Value} {xs : List ByteArray} {f : ByteArray → Bool} (hr : Row w0 s (strsV xs)) (hcl : ∀ W, Ext w0 W → ∀ k, CallV Try.prog cl #[.string k] W fun v W' => v = .bool (f k) ∧ Ext W W') :
    Call Try.prog 82 #[s, cl] w0 fun v w' => Ext w0 w' ∧ ((v = .int .i64 (-1) ∧ ∀ x ∈ xs, f x = false) ∨ ∃ i : Nat, v = .int .i64 i ∧ (∃ h : i < xs.length, f xs[i] = true) ∧ ∀ x ∈ xs.take i, f x = false) := by
  apply vc82
  unfold V82
  have hle := hr.len_le
  simp at hle
  refine hr.len u_strs ?_
  refine rounds1 (fun i : Nat => .int .i64 i) (fun i W => i ≤ xs.length ∧ Ext w0 W ∧ ∀ x ∈ xs.take i, f x = false) (fun i _ => xs.length - i) 0 rfl ⟨by omega, Ext.refl _, by simp⟩ ?_
  rintro next i w ⟨hi, hE, hf⟩ hnext _
  refine does_lt (condP_of (fun hlt => ?_) fun hge => ?_)
  · simp only [strsV_length, decide_eq_true_eq, Int.ofNat_lt] at hlt
    refine (hr.ext hE).index u_strs sz_str (by simpa using hlt) fun p hp => does_load1 agg_str hp ?_
    rw [strsV_get hlt]
    obtain ⟨fn, fi, ca, hcv, hcall⟩ := hcl w hE xs[i]
    refine ⟨fn, fi, ca, hcv, hcall.mono fun v w1 ⟨hv, hE1⟩ => ?_⟩
    subst hv
    refine condP_of (fun ht => ?_) fun hff => ?_
    · exact ⟨hE.trans hE1, .inr ⟨i, rfl, ⟨hlt, ht⟩, hf⟩⟩
    · refine does_add (by omega) (by omega) (hnext (i + 1) _ _ (by simp) ⟨by omega, hE.trans hE1, ?_⟩ (by omega))
      rw [take_succ hlt]
      intro x hx
      rcases List.mem_append.1 hx with hx | hx
      · exact hf x hx
      · rw [List.mem_singleton.1 hx]; exact hff
  · simp only [strsV_length, decide_eq_false_iff_not, Int.ofNat_lt] at hge
    have : i = xs.length := by omega
    subst this
    rw [List.take_length] at hf
    exact ⟨hE, .inl ⟨rfl, hf⟩⟩
theorem deleteFunc_spec {w0 : World} {base : Nat} {s cl : Value} {xs : List ByteArray} {f : ByteArray → Bool} (ho : Own w0 base 9 s (strsV xs))
    (hcl : ∀ W, Mod s.ownBlock w0 W → ∀ k, CallV Try.prog cl #[.string k] W fun v W' => v = .bool (f k) ∧ Ext W W') :
    Call Try.prog 66 #[s, cl] w0 fun v w' => Own w' base 9 v (strsV (xs.filter fun x => !f x)) ∧ v.ownBlock = s.ownBlock ∧ Mod s.ownBlock w0 w' := by
  apply vc66
  unfold V66
  have hr0 := ho.row
  have hle := hr0.len_le
  simp at hle
  refine (indexFunc_spec hr0 fun W hW => hcl W (Mod.ofExt hW)).mono fun v w1 ⟨hE1, hv⟩ => ?_
  rcases hv with ⟨rfl, hall⟩ | ⟨i, rfl, ⟨hil, hfi⟩, hf⟩
  · refine does_eqI ?_
    rw [show decide ((-1 : Int) = -1) = true from rfl, condP_true]
    refine ⟨?_, rfl, Mod.ofExt hE1⟩
    rw [List.filter_eq_self.2 (fun x hx => by simp [hall x hx])]
    exact ho.ext hE1
  · refine does_eqI ?_
    have : decide ((i : Int) = -1) = false := by rw [decide_eq_false_iff_not]; omega
    rw [this, condP_false]
    obtain ⟨a, c, hsv, ⟨_, hnc⟩, _⟩ := id hr0
    simp at hsv hnc
    subst hsv
    refine does_add (by omega) (by omega) ?_
    have ho' : Own w0 base 9 (.slice a xs.length c) (strsV xs) := ho
    refine rounds2 (σ := Nat × Nat × List ByteArray) (fun t => .int .i64 t.1) (fun t => .int .i64 t.2.1)
      (fun t w' => t.2.1 ≤ xs.length ∧ t.1 + 1 ≤ t.2.1 ∧ Own w' base 9 (.slice a xs.length c) (strsV t.2.2) ∧ t.2.2.length = xs.length ∧ Mod (Value.slice a xs.length c).ownBlock w0 w' ∧
        t.2.2.take t.1 = (xs.take t.2.1).filter (fun x => !f x) ∧ t.2.2.drop t.2.1 = xs.drop t.2.1)
      (fun t _ => xs.length - t.2.1) (i, i + 1, xs) rfl (by simp) ⟨hil, Nat.le_refl _, ho'.ext hE1, rfl, Mod.ofExt hE1, ?_, rfl⟩ ?_
    · rw [take_succ hil, List.filter_append, List.filter_eq_self.2 (fun x hx => by simp [hf x hx])]
      simp [hfi]
    rintro next ⟨k, j, cs⟩ w ⟨hj, hkj, oc, hcl', hM, htk, hdr⟩ hnext _
    simp only at hj hkj oc hcl' hM htk hdr ⊢
    have hclV : (strsV cs).length = xs.length := by rw [strsV_length, hcl']
    refine oc.row.len u_strs ?_
    rw [hclV]
    refine does_lt (condP_of (fun hlt => ?_) fun hge => ?_)
    · simp only [decide_eq_true_eq, Int.ofNat_lt] at hlt
      have hcj : cs[j]'(by omega) = xs[j] := by
        have e1 : (cs.drop j)[0]'(by simp; omega) = (xs.drop j)[0]'(by simp; omega) := by simp only [hdr]
        simpa [List.getElem_drop] using e1
      have hdr2 : cs.drop (j + 1) = xs.drop (j + 1) := by
        have := congrArg (List.drop 1) hdr
        simpa [List.drop_drop] using this
      refine oc.row.index u_strs sz_str (by omega) fun p hp => does_load1 agg_str hp ?_
      rw [strsV_get (by omega), hcj]
      obtain ⟨fn, fi, ca, hcv, hcall⟩ := hcl w hM xs[j]
      refine ⟨fn, fi, ca, hcv, hcall.mono fun v w2 ⟨hv, hE2⟩ => ?_⟩
      subst hv
      refine does_not (condP_of (fun ht => ?_) fun hff => ?_)
      · simp only [Bool.not_eq_true'] at ht
        have oc2 := oc.ext hE2
        refine oc2.indexAt u_strs sz_str (by omega) fun g hg hbg hcell => ?_
        refine does_of (run_store1 sz_str rfl rfl hcell (oc2.notFrozen hg)) ?_
        refine does_add (by omega) (by omega) (does_add (by omega) (by omega) ?_)
        refine hnext (k + 1, j + 1, cs.set k xs[j]) _ _ _ (by simp) (by simp) ⟨by simp only; omega, by simp only; omega, ?_, by simpa using hcl', ?_, ?_, ?_⟩ (by simp only; omega)
        · have := oc2.setCell (x := .string xs[j]) hg (i := k) (by omega)
          simpa [strsV, List.map_set] using this
        · refine hM.trans ((Mod.ofExt hE2).trans ?_)
          rw [hg]
          exact Mod.setCell _ _ _ _
        · simp only
          rw [take_succ (by simp; omega), take_succ hlt, List.take_set_of_le (Nat.le_refl _), List.getElem_set_self, htk, List.filter_append]
          simp [ht]
        · simp only
          rw [List.drop_set_of_lt (by omega)]
          exact hdr2
      · simp only [Bool.not_eq_false'] at hff
        refine does_add (by omega) (by omega) ?_
        refine hnext (k, j + 1, cs) _ _ _ rfl (by simp) ⟨by simp only; omega, by simp only; omega, oc.ext hE2, hcl', hM.trans (Mod.ofExt hE2), ?_, hdr2⟩ (by simp only; omega)
        simp only
        rw [take_succ hlt, htk, List.filter_append]
        simp [hff]
    · simp only [decide_eq_false_iff_not, Int.ofNat_lt] at hge
      have hje : j = xs.length := by omega
      subst hje
      rw [List.take_length] at htk
      have oc' : Own w base 9 (.slice a cs.length c) (strsV cs) := by rw [hcl']; exact oc
      rw [show xs.length = cs.length from hcl'.symm]
      refine does_of (run_from u_strs sz_str (by omega) w) ?_
      obtain ⟨w3, hcr, oc3, hM3⟩ := run_clear_row oc' (k := k) (by omega)
      refine does_of hcr ?_
      refine does_of (run_upto u_strs sz_str (by omega) w3) ⟨?_, by cases a <;> rfl, ?_⟩
      · rw [← htk]
        exact oc3
      · rw [hcl'] at hM3 ⊢
        exact hM.trans hM3

/-! ### 2. ancestors -/
/-- l has, in order, each k with p. -/
def SetOf (p : ByteArray → Prop) (l : List ByteArray) : Prop := Strict l ∧ ∀ k, k ∈ l ↔ p k
theorem SetOf.unique {p q : ByteArray → Prop} {a b : List ByteArray} (ha : SetOf p a) (hb : SetOf q b) (h : ∀ k, p k ↔ q k) : a = b := strict_unique ha.1 hb.1 fun x => (ha.2 x).trans ((h x).trans (hb.2 x).symm)
theorem sort_nodup {l : List ByteArray} (h : l.Nodup) : Strict (sortS l) := by
  have h1 := sortS_sorted l
  have h2 : (sortS l).Nodup := (sortS_perm l).symm.nodup h
  unfold Sorted at h1
  unfold Strict
  have h3 : (sortS l).Pairwise fun a b => blt b a = false ∧ a ≠ b := List.pairwise_and_iff.2 ⟨h1, h2⟩
  exact h3.imp fun ⟨h4, h5⟩ => by
    cases h6 : blt _ _
    · exact absurd (blt_total h6 h4) h5
    · rfl
theorem keys_set {m : KV} {p : ByteArray → Prop} (hn : (keysOf m).Nodup) (h : ∀ k, k ∈ keysOf m ↔ p k) : SetOf p (sortS (keysOf m)) := ⟨sort_nodup hn, fun k => mem_sortS.trans (h k)⟩
structure AskOk (G : List Cm) (ids : List ByteArray) (K : Nat) : Prop where
  fits : Fits G K
  few : ids.length + G.length * K ≤ 1099511627776
  g : G.length ≤ 1099511627776
theorem map_le {w : World} {mb : Nat} {m : KV} {G : List Cm} {ids : List ByteArray} (hm : MapAt w mb m) (hG : Closed G) (hk : known G ids = true) (h : ∀ k, k ∈ keysOf m ↔ Anc G ids k) : m.length ≤ G.length := by
  have := nodup_le hm.nodup (m := idsOf G) fun k hx => ((h k).1 hx).known hG hk
  simpa [keysOf, idsOf] using this
theorem ancestors_spec {w : World} {T : Nat → Prop} {gv iv : Value} {G : List Cm} {ids : List ByteArray} {K : Nat} (h : PG w T gv G) (hr : Row w iv (strsV ids)) (hA : AskOk G ids K) :
    Call Try.prog 32 #[gv, iv] w fun v w' => Ext w w' ∧ ∃ s L, v = .tuple #[s, .int .i64 (if known G ids then 0 else 7)] ∧ Own w' w.heap.size 9 s (strsV L) ∧ if known G ids then SetOf (Anc G ids) L else L = [] := by
  apply vc32
  unfold V32
  refine (reach_spec h hr hA.fits hA.few).mono fun v w1 ⟨hE, hv⟩ => ?_
  by_cases hk : known G ids = true
  · rw [if_pos hk] at hv
    obtain ⟨mb, m, rfl, hmb, hm, hkeys⟩ := hv
    have hml := map_le hm hA.fits.closed hk hkeys
    have := hA.g
    refine ext_2a (ext_2b ((keys_spec hm (by omega)).mono fun v w2 ⟨h1, h2⟩ => ⟨hE.trans h2, v, _, by rw [if_pos hk], h1.mono hE.size, ?_⟩))
    rw [if_pos hk]
    exact keys_set hm.nodup hkeys
  · rw [if_neg hk] at hv
    subst hv
    refine ext_2a (ext_2b (keys_nil.mono fun v w2 ⟨h1, h2⟩ => ⟨hE.trans h2, v, _, by rw [if_neg hk], h1.mono hE.size, ?_⟩))
    rw [if_neg hk]
theorem is_spec {w : World} {T : Nat → Prop} {gv : Value} {G : List Cm} {a b : ByteArray} {K : Nat} {p : Prop} [Decidable p] (h : PG w T gv G) (hA : AskOk G [b] K) (hp : p ↔ (b ∈ idsOf G ∧ Anc G [b] a)) :
    Call Try.prog 40 #[gv, .string a, .string b] w fun v w' => v = .bool (decide p) ∧ Ext w w' := by
  apply vc40
  unfold V40
  refine does_of (run_buildSlice1 u_strs sz_str zero_str rfl rfl w) ?_
  have hA0 : Ext w (w.alloc (.cells #[.string b] 9)) := (Ext.refl w).alloc _
  have rN : Row (w.alloc (.cells #[.string b] 9)) (.slice (some ⟨w.heap.size, 0, none⟩) 1 1) (strsV [b]) := (own_single (base := 0) 9 (.string b) (Nat.zero_le _)).row
  have hkb : known G [b] = true ↔ b ∈ idsOf G := by simp [known]
  refine (reach_spec (h.ext hA0) rN hA.fits hA.few).mono fun v w1 ⟨hE, hv⟩ => ?_
  by_cases hk : known G [b] = true
  · rw [if_pos hk] at hv
    obtain ⟨mb, m, rfl, hmb, hm, hkeys⟩ := hv
    refine ext_2a (ext_2b (does_of (hm.lookupOk u_ints u_str (zero_int w1) a) (ext_2a (ext_2b (does_of (run_eqI w1) ?_)))))
    refine and_join (decide (a ∈ keysOf m)) (fun _ j hj => hj) ⟨?_, hA0.trans hE⟩
    have : (a ∈ keysOf m) ↔ p := (hkeys a).trans ⟨fun h => hp.2 ⟨hkb.1 hk, h⟩, fun h => (hp.1 h).2⟩
    simp [this]
  · rw [if_neg hk] at hv
    subst hv
    refine ext_2a (ext_2b (does_of (run_lookupOk_nil u_ints u_str (zero_int w1) a) (ext_2a (ext_2b (does_of (run_eqI w1) ?_)))))
    refine and_join false (fun _ j hj => hj) ⟨?_, hA0.trans hE⟩
    have : ¬ p := fun h => hk (hkb.2 (hp.1 h).1)
    simp [this]
end Go.Proofs.Ytcncgkkilgmphaa
