/-
  Contract of the document's graph: order.
-/
import Derived.Test.YtcncgkkilgmphaaRd
set_option linter.unusedVariables false
set_option linter.unusedSimpArgs false
namespace Go.Proofs.Ytcncgkkilgmphaa
open Go Go.RowKit

theorem ro_insert {J : VF 1} {w0 W : World} {a out : Value} {xs ys : List ByteArray} {i k : Nat} (ha : Row w0 a (strsV xs)) (hlt : i < xs.length) (hE : Ext w0 W) (ho : Own W w0.heap.size 9 out (strsV ys)) (hk : k ≤ ys.length) (hl : ys.length ≤ 1099511627776)
    (hJ : ∀ v W', Own W' w0.heap.size 9 v (strsV (ys.take k ++ xs[i] :: ys.drop k)) → Ext w0 W' → J v W') :
    DrawP Try.prog 63 (opsOf Try.f39 11) [6, 8, 9, 10] [a, out, .int .i64 i, .int .i64 k] [8] J W := by
  obtain ⟨oa, oc, rfl, ⟨_, hnc⟩, _⟩ := id ho.row
  simp at hnc
  have hyl : (strsV ys).length = ys.length := strsV_length ys
  have hgo : ∀ b, (Value.slice oa (strsV ys).length oc).ownBlock = some b → b < W.heap.size := fun b hb => (ho.lt b hb).2
  refine p39_11 Ext (Grow w0.heap.size) (fun n W' => Ext w0 W' ∧ W.heap.size ≤ W'.heap.size ∧ (n = 0 → Ext W W'))
    (fun v W' => v = .slice oa k oc) (fun v W' => ∃ p, v = .pointer (some p) ∧ w0.cell? p = some (.string xs[i])) (fun v W' => v = .string xs[i])
    (fun v W' => Own W' W.heap.size 9 v (strsV [xs[i]]) ∧ ∃ b, v = .slice (some b) 1 1) (fun v W' => v = .slice (if oc = k then oa else oa.map (·.add k)) ((strsV ys).length - k) (oc - k))
    (fun v W' => Own W' W.heap.size 9 v (strsV (xs[i] :: ys.drop k))) (fun v W' => Own W' w0.heap.size 9 v (strsV (ys.take k ++ xs[i] :: ys.drop k)))
    Ext.refl (fun A B h => Grow.ofExt h) (Grow.refl _) (fun A B D => Grow.trans) (FSt.pure _) (FSt.pure _) (FSt.pure _) (fun v A B h ⟨h1, h2⟩ => ⟨h1.ext h, h2⟩) (FSt.pure _) (FSt.own _ _ _) (FSt.own _ _ _) ?_ ?_ ?_ ?_ ?_ ?_ ?_ ?_ ?_
  · exact ⟨hE.trans (Ext.drawn W), Nat.le_refl _, fun _ => Ext.drawn W⟩
  · intro W' _ hC
    exact does_of (run_upto u_strs sz_str (by omega) W') ⟨Ext.refl _, hC, rfl⟩
  · intro n _ _ W' _ hC
    exact ha.index u_strs sz_str (by rw [strsV_length]; exact hlt) fun p hp => ⟨Ext.refl _, hC, p, rfl, by rw [hp, strsV_get hlt]⟩
  · rintro v n _ _ W' _ hC ⟨p, rfl, hp⟩
    exact does_load1 agg_str (hC.1.cell hp) ⟨Ext.refl _, hC, rfl⟩
  · rintro v n _ _ W' _ hC rfl
    have hA : Ext W' (W'.alloc (.cells #[.string xs[i]] 9)) := (Ext.refl W').alloc _
    exact does_of (run_buildSlice1 u_strs sz_str zero_str rfl rfl W') ⟨hA, ⟨hC.1.trans hA, Nat.le_trans hC.2.1 hA.size, fun h => (hC.2.2 h).trans hA⟩, own_single _ _ hC.2.1, _, rfl⟩
  · intro n _ _ W' _ hC
    exact does_of (run_from u_strs sz_str (by omega) W') ⟨Ext.refl _, hC, rfl⟩
  · rintro v u W' _ hC ⟨hov, b, rfl⟩ rfl
    have hEW := hC.2.2 rfl
    have rd : Row W' (.slice (if oc = k then oa else oa.map (·.add k)) ((strsV ys).length - k) (oc - k)) (strsV (ys.drop k)) := by
      have := row_cut (ho.ext hEW).row (l := k) (h := (strsV ys).length) (by omega) (Nat.le_refl _)
      rwa [List.take_length, ← strsV_drop] at this
    refine append_full u_strs info_str rfl hov.row rd (by simp; omega) (by omega) (fun h => ⟨Ext.refl _, hC, ?_⟩) fun v' w' hov' hE' => ⟨hE', ⟨hC.1.trans hE', Nat.le_trans hC.2.1 hE'.size, fun h => (hC.2.2 h).trans hE'⟩, ?_⟩
    · have : ys.drop k = [] := by simpa [strsV] using h
      rw [this]
      exact hov
    · exact (hov'.mono hC.2.1)
  · rintro v u W' hS hC rfl hou
    have hEW := hC.2.2 rfl
    have ho' : Own W' w0.heap.size 9 (.slice oa k oc) (strsV (ys.take k)) := by
      rw [strsV_take]
      exact own_upto (ho.ext hEW) (by omega)
    refine ho'.append u_strs info_str rfl hou.row (strsV_one _) (by simp; omega) (by omega) hC.1.size fun v' w' hov hg hat => ?_
    have hM : Mod (Value.slice oa k oc).ownBlock W' w' := hg
    have hgr : ∀ b, (Value.slice oa k oc).ownBlock = some b → b < W.heap.size := fun b hb => hgo b (by cases oa <;> exact hb)
    refine ⟨Grow.ofMod hM ho'.ge, ⟨hC.1.grownOwn ho' hg, Nat.le_trans hC.2.1 hM.size, fun h => by cases h⟩, by rw [strsV_append]; exact hov, fun _ h => h, fun _ h => h, fun _ h => h, fun u h => ⟨rowOwn_keep hM h.1 hgr, h.2⟩, fun _ h => h, fun u h => rowOwn_keep hM h hgr, trivial⟩
  · intro v W' _ hC hov
    exact hJ v W' hov hC.1
structure OrdSt2 where
  z1 : List ByteArray
  z2 : List ByteArray
theorem stamp_known {G : List Cm} {k : ByteArray} (h : k ∈ idsOf G) : (cmOf G k).elim (-1) (·.st) = stOf G k := by
  obtain ⟨c, hc⟩ := cmOf_some h
  unfold stOf
  rw [hc]; rfl
set_option maxHeartbeats 1000000 in
theorem rorder_spec {w : World} {T : Nat → Prop} {v iv : Value} {G : List Cm} {ids : List ByteArray} {K : Nat} (h : RG w T v G) (hr : Row w iv (strsV ids)) (hA : RAsk G K) :
    Call Try.prog 39 #[v, iv] w fun r w' => Ext w w' ∧ ∃ s L, r = .tuple #[s, .int .i64 (if known G ids then 0 else 7)] ∧ Own w' w.heap.size 9 s (strsV L) ∧
      if known G ids then ∃ L0, SetOf (Anc G ids) L0 ∧ Asc (later G) L ∧ Stab (later G) L0 L else L = [] := by
  apply vc39
  unfold V39
  have hgl := hA.g
  have O := later_wo G
  refine (rancestors_spec h hr hA).mono fun r w1 ⟨hE1, s1, L, hv1, ho1, hL⟩ => ?_
  subst hv1
  have hll := rset_le hA hL
  refine ext_2a (ext_2b (does_of (run_neI w1) ?_))
  refine condP_of (fun hbad => ?_) fun hok => ?_
  · have hk : ¬ known G ids = true := by intro hk; simp [hk] at hbad
    exact ⟨hE1, _, [], rfl, Own.nil _ _ _, by rw [if_neg hk]⟩
  have hk : known G ids = true := by
    cases hk : known G ids
    · simp [hk] at hok
    · rfl
  simp only [hk, if_true] at hL ⊢
  have hkn : ∀ k ∈ L, k ∈ idsOf G := fun k hx => ((hL.2 k).1 hx).known hA.topo.closed hk
  have rL := ho1.row
  refine rounds2 (σ := TopSt) (fun t => t.ov) (fun t => .int .i64 (t.i : Nat)) (fun t W => t.i ≤ L.length ∧ Ext w1 W ∧ Own W w1.heap.size 9 t.ov (strsV t.out) ∧ Asc (later G) t.out ∧ Stab (later G) (L.take t.i) t.out) (fun t _ => L.length - t.i)
    ⟨_, 0, []⟩ rfl rfl ⟨by simp, Ext.refl _, Own.nil _ _ _, List.Pairwise.nil, by simpa using Stab.refl []⟩ ?_
  rintro next ⟨ov, i, out⟩ W ⟨hi, hE, ho, hasc, hst⟩ hnext _
  simp only at hi hE ho hasc hst ⊢
  have hol : out.length = i := by rw [← hst.1.length_eq, List.length_take]; omega
  refine (rL.ext hE).len u_strs (does_lt (condP_of (fun hlt => ?_) fun hge => ?_))
  · have hlt' : i < L.length := by simpa using hlt
    refine ho.row.len u_strs ?_
    rw [strsV_length]
    have hxk : L[i] ∈ idsOf G := hkn _ (by simp)
    refine rounds1 (σ := OrdSt2) (fun t => .int .i64 (t.z1.length : Nat)) (fun t W2 => Ext W W2 ∧ out = t.z1 ++ t.z2 ∧ ∀ y ∈ t.z2, later G L[i] y = true) (fun t _ => t.z1.length) ⟨out, []⟩ rfl ⟨Ext.refl _, by simp, by simp⟩ ?_
    rintro next2 ⟨z1, z2⟩ W2 ⟨hE2, hz, hlater⟩ hnext2 _
    simp only at hE2 hz hlater ⊢
    have hzl : out.length = z1.length + z2.length := by rw [hz]; simp
    have hE02 := hE.trans hE2
    -- the end of the inner loop
    have fin : ∀ W3, Ext W2 W3 → (∀ y ∈ z1, later G L[i] y = false) → DrawP Try.prog 63 (opsOf Try.f39 11) [6, 8, 9, 10] [s1, ov, .int .i64 (i : Nat), .int .i64 (z1.length : Nat)] [8] (fun out8 w => ∀ _ : Nat → Value,
        Does Try.prog (binOp .add 3 (.int .i64 (i : Nat)) (.int .i64 1)) w fun t25 w => next out8 t25 w) W3 := by
      intro W3 hE3 hz1
      refine ro_insert rL hlt' (hE02.trans hE3) ((ho.ext hE2).ext hE3) (by omega) (by omega) fun v' W' ho' hE' _ => ?_
      have e1 : out.take z1.length = z1 := by rw [hz]; simp
      have e2 : out.drop z1.length = z2 := by rw [hz]; simp
      rw [e1, e2] at ho'
      refine does_add (by omega) (by omega) (hnext ⟨v', i + 1, z1 ++ L[i] :: z2⟩ _ _ W' rfl (by simp) ⟨by simp only; omega, hE', ho', asc_ins (O := O) (hz ▸ hasc) hlater hz1, ?_⟩ (by simp only; omega))
      simp only
      rw [take_succ hlt']
      refine (hst.append (Stab.refl [L[i]])).trans ?_
      rw [hz]
      exact stab_ins (O := O) hlater
    refine q39_9 (Ext W2) (Ext.drawn W2) fun _ => ?_
    rcases List.eq_nil_or_concat z1 with h0 | ⟨z1', y, h0⟩
    · subst h0
      refine q_run (run_gt (a := (([] : List ByteArray).length : Int)) (b := 0)) ?_
      refine and_join true (fun hh => by simp at hh) ?_
      intro W3 hE3 _
      simp only [List.length_nil, Int.ofNat_zero, Int.lt_irrefl, decide_false, Bool.false_and]
      refine (condP_false _ _).symm ▸ ?_
      exact fin W3 hE3 (by simp)
    · rw [List.concat_eq_append] at h0
      subst h0
      have hl1 : (z1' ++ [y]).length = z1'.length + 1 := by simp
      have hyk : y ∈ idsOf G := hkn y (by
        have : y ∈ out := by rw [hz]; simp
        have := hst.1.mem_iff.2 this
        exact List.mem_of_mem_take this)
      have hgt : decide ((0 : Int) < (((z1' ++ [y]).length : Nat) : Int)) = true := by rw [decide_eq_true_eq]; omega
      refine q_run (run_gt (a := (((z1' ++ [y]).length : Nat) : Int)) (b := 0)) ?_
      rw [hgt]
      have hgety : out[(z1' ++ [y]).length - 1]? = some y := by
        rw [hz, hl1]
        have := get_mid z1' y z2
        simp
      refine and_join (later G L[i] y) (fun _ j hj => ?_) ?_
      · refine q_run (fun W => sub1 (by omega) (by omega) W) (q_text (ho.row.ext hE2) hgety ?_)
        refine qcall_of (.int .i64 (stOf G y)) (fun W3 hW3 => (rstamp_spec ((h.ext hE1).ext (hE02.trans hW3))).mono fun u W' ⟨g1, g2⟩ => ⟨by rw [g1, stamp_known hyk], Ext.trans hW3 g2⟩) ?_
        refine q_text (rL.ext hE02) (List.getElem?_eq_getElem hlt') ?_
        refine qcall_of (.int .i64 (stOf G L[i])) (fun W3 hW3 => (rstamp_spec ((h.ext hE1).ext (hE02.trans hW3))).mono fun u W' ⟨g1, g2⟩ => ⟨by rw [g1, stamp_known hxk], Ext.trans hW3 g2⟩) ?_
        exact q_run run_lt hj
      · intro W3 hE3 _
        rw [Bool.true_and]
        refine condP_of (fun ht => ?_) fun hf => ?_
        · refine does_of (sub1 (by omega) (by omega) W3) (hnext2 ⟨z1', y :: z2⟩ _ W3 (by simp only; congr 1; omega) ⟨hE2.trans hE3, by simpa using hz, ?_⟩ (by simp))
          intro y' hy'
          rcases List.mem_cons.1 hy' with e | hy'
          · rw [e]; exact ht
          · exact hlater y' hy'
        · refine fin W3 hE3 fun y' hy' => ?_
          have hzz : Asc (later G) (z1' ++ [y]) := (asc_append.1 (hz ▸ hasc)).1
          rcases List.mem_append.1 hy' with hy' | hy'
          · exact O.ntrans hf ((asc_append.1 hzz).2.2 y' hy' y (by simp))
          · rw [List.mem_singleton.1 hy']; exact hf
  · have hie : i = L.length := by
      have : ¬ i < L.length := by simpa using hge
      omega
    subst hie
    rw [List.take_length] at hst
    exact ⟨hE1.trans hE, ov, out, rfl, ho.mono hE1.size, L, hL, hasc, hst⟩
end Go.Proofs.Ytcncgkkilgmphaa
