/-
  Contracts: the graph's nearest commits; bases and tops.
-/
import Derived.Test.YtcncgkkilgmphaaDi
set_option linter.unusedVariables false
set_option linter.unusedSimpArgs false
namespace Go.Proofs.Ytcncgkkilgmphaa
open Go Go.RowKit

theorem Row.modMap {w w' : World} {b : Nat} {l : KV} {v : Value} {xs : List Value} (h : Row w v xs) (hb : MapAt w b l) (hm : Mod (some b) w w') : Row w' v xs := by
  obtain ⟨a, c, hv, hl, hc⟩ := h
  exact ⟨a, c, hv, hl, fun j x hj => by
    obtain ⟨ad, g1, g2⟩ := hc j x hj
    exact ⟨ad, g1, hm.cell g2 fun e => hb.nocell g2 (by cases e; rfl)⟩⟩
structure NearSt where
  cov : KV
  rest : KV
  done : List ByteArray
/-- what is some set commit's parent -/
def Covered (G : List Cm) (ks : List ByteArray) (p : ByteArray) : Prop := ∃ k ∈ ks, p ∈ par G k
def Near (G : List Cm) (q : ByteArray → Prop) (k : ByteArray) : Prop := q k ∧ ¬ ∃ k', q k' ∧ k ∈ par G k'
theorem nearest_spec {w : World} {T : Nat → Prop} {gv : Value} {G : List Cm} {K b : Nat} {m : KV} (h : PG w T gv G) (hF : Fits G K) (hK : K ≤ 1099511627776) (hm : MapAt w b m) (hl : m.length ≤ 1099511627776) :
    Call Try.prog 62 #[gv, .map (some b)] w fun v w' => Ext w w' ∧ ∃ L, Own w' w.heap.size 9 v (strsV L) ∧ SetOf (Near G (· ∈ keysOf m)) L := by
  apply vc62
  unfold V62
  refine does_of (run_makeMap' _ w) ?_
  have hE0 : Ext w (w.alloc (.map #[] 0)) := (Ext.refl w).alloc _
  have hrunA : (Instr.alloc 77 true (.tuple #[])).run Try.prog (w.alloc (.map #[] 0)) = .ok (.pointer (some ⟨w.heap.size + 1, 0, none⟩)) ((w.alloc (.map #[] 0)).alloc (.cells #[.map none] 77)) := by
    simp [go_sem, Instr.alloc]
  refine does_of hrunA ?_
  have hcell0 : ((w.alloc (.map #[] 0)).alloc (.cells #[.map none] 77)).cell? ⟨w.heap.size + 1, 0, none⟩ = some (.map none) := by simp [go_sem]
  have hrunS : (Instr.storeAt 77 (.pointer (some ⟨w.heap.size + 1, 0, none⟩)) (.map (some w.heap.size))).run Try.prog ((w.alloc (.map #[] 0)).alloc (.cells #[.map none] 77)) =
      .ok () ((w.alloc (.map #[] 0)).alloc (.cells #[.map (some w.heap.size)] 77)) := by
    simp [go_sem, Instr.storeAt]
  refine does_of hrunS ?_
  generalize hw1 : (w.alloc (.map #[] 0)).alloc (.cells #[.map (some w.heap.size)] 77) = w1
  have hE1 : Ext w w1 := by rw [← hw1]; exact hE0.alloc _
  have hcell1 : w1.cell? ⟨w.heap.size + 1, 0, none⟩ = some (.map (some w.heap.size)) := by rw [← hw1]; simp [go_sem]
  have hcov1 : MapAt w1 w.heap.size [] := by rw [← hw1]; exact (map_made w).ext ((Ext.refl _).alloc _)
  have hsz1 : w1.heap.size = w.heap.size + 2 := by rw [← hw1]; simp
  obtain ⟨o, hrunR, hit⟩ := (hm.ext hE1).range u_ints
  refine does_of hrunR ?_
  have hE2 : Ext w1 (w1.alloc o) := (Ext.refl w1).alloc _
  have hbsz : b < w.heap.size := hm.lt
  refine rounds0 (σ := NearSt) (fun s W => Ext w W ∧ MapAt W w.heap.size s.cov ∧ W.cell? ⟨w.heap.size + 1, 0, none⟩ = some (.map (some w.heap.size)) ∧ Iter W w1.heap.size b m s.rest ∧ (s.done ++ keysOf s.rest).Perm (keysOf m) ∧
      (∀ p, p ∈ keysOf s.cov ↔ Covered G s.done p)) (fun s _ => s.rest.length) ⟨[], m, []⟩ ⟨hE1.trans hE2, hcov1.ext hE2, hE2.cell hcell1, hit, by simp, by simp [keysOf, Covered]⟩ ?_
  rintro next ⟨cov, rest, done⟩ W ⟨hE, hcov, hcell, hi, hp, hc⟩ hnext _
  simp only at hE hcov hcell hi hp hc ⊢
  rcases hi.next (P := Try.prog) 0 with ⟨rfl, hrun⟩ | ⟨k, v, rest', W2, hperm, _, hrun, hi2, hmod, hszn, hent⟩
  · refine does_of hrun (ext_1 ?_)
    rw [condP_false]
    refine (keys_spec (hm.ext hE) hl).mono fun v W2 ⟨ho, hE3⟩ => ?_
    have hds : done.Perm (keysOf m) := by simpa [keysOf] using hp
    have hpred : ∀ k, decide (k ∈ keysOf cov) = decide (k ∈ keysOf cov) := fun _ => rfl
    have hcc : w.heap.size + 1 < W.heap.size := World.block_lt_of_cell? W _ hcell
    have hcovlt : w.heap.size < W.heap.size := hcov.lt
    refine (deleteFunc_spec (f := fun k => decide (k ∈ keysOf cov)) ho fun W3 hM k => ?_).mono fun v3 W3 ⟨h1, h2, h3⟩ => ?_
    · refine ⟨_, _, _, rfl, ?_⟩
      show Call Try.prog 80 #[.string k, .pointer (some ⟨w.heap.size + 1, 0, none⟩)] W3 _
      apply vc80
      unfold V80
      have hcell3 : W3.cell? ⟨w.heap.size + 1, 0, none⟩ = some (.map (some w.heap.size)) := hM.cell (hE3.cell hcell) (fun e => by have := ho.ge _ e.symm; simp at this; omega)
      have hcov3 : MapAt W3 w.heap.size cov := (hcov.ext hE3).mod hM (fun e => by have := ho.ge _ e.symm; omega)
      have hload : (Instr.loadAt 77 (.pointer (some ⟨w.heap.size + 1, 0, none⟩))).run Try.prog W3 = .ok (.map (some w.heap.size)) W3 := by simp [go_sem, Instr.loadAt, hcell3]
      exact does_of hload (does_of (hcov3.lookupOk u_ints u_str (zero_int W3) k) (ext_2a (ext_2b ⟨rfl, Ext.refl _⟩)))
    · refine ⟨Mod.ext (hE.trans hE3) h3 (fun k hk => by have := ho.ge k hk; have := hE.size; omega), _, h1.mono hE.size, ?_⟩
      have hst : Strict (sortS (keysOf m)) := sort_nodup hm.nodup
      refine ⟨hst.sublist List.filter_sublist, fun k => ?_⟩
      rw [List.mem_filter, mem_sortS]
      have : (!decide (k ∈ keysOf cov)) = true ↔ ¬ ∃ k', k' ∈ keysOf m ∧ k ∈ par G k' := by
        simp only [Bool.not_eq_true', decide_eq_false_iff_not, hc k, Covered]
        constructor
        · rintro h ⟨k', h1, h2⟩; exact h ⟨k', hds.mem_iff.2 h1, h2⟩
        · rintro h ⟨k', h1, h2⟩; exact h ⟨k', hds.mem_iff.1 h1, h2⟩
      rw [this]
      rfl
  · refine does_of hrun (ext_3a ?_)
    rw [condP_true]
    refine does_of hent (ext_2a ?_)
    have hEW2 : Ext w W2 := Mod.ext hE hmod (fun k hk => by cases hk; omega)
    have hcov2 : MapAt W2 w.heap.size cov := hcov.mod hmod (by simp; omega)
    have hcell2 := hmod.cell hcell (by simp; omega)
    obtain ⟨gb, mb, rfl, h2, h3, hlo, hk⟩ := (h.ext hEW2).get
    obtain ⟨s, x, h4, hs, _, hrow, _⟩ := hk k
    rw [nilP_some]
    refine does_of (run_fieldG gb W2) (does_of hlo (does_of h4 (does_of (run_node0 s hs x W2) ?_)))
    have hrow' : Row W2 s (strsV (par G k)) := hrow.1
    have hpk := hF.par k
    have hplen : rest.length = rest'.length + 1 := by simpa using hperm.length_eq
    refine hrow'.len u_strs ?_
    refine rounds1 (σ := Nat × KV) (fun t => .int .i64 t.1) (fun t W3 => t.1 ≤ (par G k).length ∧ Ext w W3 ∧ MapAt W3 w.heap.size t.2 ∧ W3.cell? ⟨w.heap.size + 1, 0, none⟩ = some (.map (some w.heap.size)) ∧ Iter W3 w1.heap.size b m rest' ∧ Row W3 s (strsV (par G k)) ∧
        (∀ p, p ∈ keysOf t.2 ↔ Covered G done p ∨ p ∈ (par G k).take t.1)) (fun t _ => (par G k).length - t.1) (0, cov) rfl ⟨by simp, hEW2, hcov2, hcell2, hi2, hrow', by simp [hc]⟩ ?_
    rintro next2 ⟨i, cv⟩ W3 ⟨hil, hE3, hcv, hcl3, hi3, hr3, hc3⟩ hnext2 _
    simp only at hil hE3 hcv hcl3 hi3 hr3 hc3 ⊢
    refine does_lt (condP_of (fun hlt => ?_) fun hge => ?_)
    · simp only [strsV_length, decide_eq_true_eq, Int.ofNat_lt] at hlt
      refine hr3.index u_strs sz_str (by simpa using hlt) fun p hp => does_load1 agg_str hp ?_
      rw [strsV_get hlt]
      have hload : (Instr.loadAt 77 (.pointer (some ⟨w.heap.size + 1, 0, none⟩))).run Try.prog W3 = .ok (.map (some w.heap.size)) W3 := by simp [go_sem, Instr.loadAt, hcl3]
      refine does_of hload ?_
      obtain ⟨W4, hrunU, hcv4, hmod4, _⟩ := hcv.update (P := Try.prog) u_ints u_str (par G k)[i] (.int .i64 1)
      refine does_of hrunU (does_add (by omega) (by omega) ?_)
      refine hnext2 (i + 1, ins cv (par G k)[i] (.int .i64 1)) _ W4 (by simp) ⟨by simp only; omega, Mod.ext hE3 hmod4 (fun k hk => by cases hk; exact Nat.le_refl _), hcv4, hmod4.cell hcl3 (by simp), hi3.mod hmod4 (by simp; omega) (by simp; omega), hr3.modMap hcv hmod4, ?_⟩ (by simp only; omega)
      intro p
      simp only
      rw [mem_keysOf_ins, take_succ hlt, List.mem_append, List.mem_singleton, hc3 p]
      constructor
      · rintro (h | h | h)
        · exact .inr (.inr h)
        · exact .inl h
        · exact .inr (.inl h)
      · rintro (h | h | h)
        · exact .inr (.inl h)
        · exact .inr (.inr h)
        · exact .inl h
    · simp only [strsV_length, decide_eq_false_iff_not, Int.ofNat_lt] at hge
      have hie : i = (par G k).length := by omega
      subst hie
      rw [List.take_length] at hc3
      refine hnext ⟨cv, rest', done ++ [k]⟩ W3 ⟨hE3, hcv, hcl3, hi3, ?_, fun p => ?_⟩ (by simp only; omega)
      · refine List.Perm.trans ?_ hp
        simp only
        rw [List.append_assoc]
        refine List.Perm.append_left done ?_
        have := hperm.map (·.1)
        simpa [keysOf] using this.symm
      · rw [hc3 p]
        unfold Covered
        constructor
        · rintro (⟨k', h1, h2⟩ | h)
          · exact ⟨k', by simp [h1], h2⟩
          · exact ⟨k, by simp, h⟩
        · rintro ⟨k', h1, h2⟩
          rcases List.mem_append.1 h1 with h1 | h1
          · exact .inl ⟨k', h1, h2⟩
          · rw [List.mem_singleton.1 h1] at h2; exact .inr h2
theorem tops_spec {w : World} {T : Nat → Prop} {gv iv : Value} {G : List Cm} {ids : List ByteArray} {K : Nat} (h : PG w T gv G) (hr : Row w iv (strsV ids)) (hA : AskOk G ids K) (hK : K ≤ 1099511627776) :
    Call Try.prog 36 #[gv, iv] w fun v w' => Ext w w' ∧ ∃ s L, v = .tuple #[s, .int .i64 (if known G ids then 0 else 7)] ∧ Own w' w.heap.size 9 s (strsV L) ∧ if known G ids then SetOf (Near G (Anc G ids)) L else L = [] := by
  apply vc36
  unfold V36
  refine (reach_spec h hr hA.fits hA.few).mono fun v w1 ⟨hE, hv⟩ => ?_
  by_cases hk : known G ids = true
  · rw [if_pos hk] at hv
    obtain ⟨mb, m, rfl, hmb, hm, hkeys⟩ := hv
    have hml := map_le hm hA.fits.closed hk hkeys
    have := hA.g
    refine ext_2a (ext_2b (does_of (run_neI w1) ?_))
    rw [show (!decide ((0 : Int) = 0)) = false from rfl, condP_false]
    refine (nearest_spec (h.ext hE) hA.fits hK hm (by omega)).mono fun v w2 ⟨h1, L, h2, h3⟩ => ⟨hE.trans h1, v, L, by rw [if_pos hk], h2.mono hE.size, ?_⟩
    rw [if_pos hk]
    refine ⟨h3.1, fun k => (h3.2 k).trans ?_⟩
    unfold Near
    simp only [hkeys]
  · rw [if_neg hk] at hv
    subst hv
    refine ext_2a (ext_2b (does_of (run_neI w1) ?_))
    rw [show (!decide ((7 : Int) = 0)) = true from rfl, condP_true]
    exact ⟨hE, _, [], by rw [if_neg hk], Own.nil _ _ _, by rw [if_neg hk]⟩
structure BasesSt where
  com : KV
  rest : KV
  done : List ByteArray
theorem bases_spec {w : World} {T : Nat → Prop} {gv iv : Value} {G : List Cm} {ids : List ByteArray} {b : ByteArray} {K : Nat} (h : PG w T gv G) (hr : Row w iv (strsV ids)) (hA : AskOk G ids K) (hB : AskOk G [b] K) (hK : K ≤ 1099511627776) :
    Call Try.prog 34 #[gv, iv, .string b] w fun v w' => Ext w w' ∧ ∃ s L, v = .tuple #[s, .int .i64 (if known G (b :: ids) then 0 else 7)] ∧ Own w' w.heap.size 9 s (strsV L) ∧
      if known G (b :: ids) then SetOf (Near G fun k => Anc G ids k ∧ Anc G [b] k) L else L = [] := by
  apply vc34
  unfold V34
  refine (reach_spec h hr hA.fits hA.few).mono fun v w1 ⟨hE, hv⟩ => ?_
  rcases (Decidable.em (known G ids = true)).symm with hk | hk
  · rw [if_neg hk] at hv
    subst hv
    have hk2 : ¬ known G (b :: ids) = true := fun h => hk (known_iff.2 fun i hi => known_iff.1 h i (by simp [hi]))
    refine ext_2a (ext_2b (does_of (run_neI w1) ?_))
    rw [show (!decide ((7 : Int) = 0)) = true from rfl, condP_true]
    exact ⟨hE, _, [], by rw [if_neg hk2], Own.nil _ _ _, by rw [if_neg hk2]⟩
  rw [if_pos hk] at hv
  obtain ⟨fb, fm, rfl, hfb, hfm, hfkeys⟩ := hv
  have hml := map_le hfm hA.fits.closed hk hfkeys
  have hg := hA.g
  refine ext_2a (ext_2b (does_of (run_neI w1) ?_))
  rw [show (!decide ((0 : Int) = 0)) = false from rfl, condP_false]
  refine does_of (run_buildSlice1 u_strs sz_str zero_str rfl rfl w1) ?_
  have hA0 : Ext w1 (w1.alloc (.cells #[.string b] 9)) := (Ext.refl w1).alloc _
  have rN : Row (w1.alloc (.cells #[.string b] 9)) (.slice (some ⟨w1.heap.size, 0, none⟩) 1 1) (strsV [b]) := (own_single (base := 0) 9 (.string b) (Nat.zero_le _)).row
  refine (reach_spec (h.ext (hE.trans hA0)) rN hB.fits hB.few).mono fun v w2 ⟨hE2, hv⟩ => ?_
  have hE3 := (hE.trans hA0).trans hE2
  rcases (Decidable.em (known G [b] = true)).symm with hkb | hkb
  · rw [if_neg hkb] at hv
    subst hv
    have hk2 : ¬ known G (b :: ids) = true := fun h => hkb (known_iff.2 fun i hi => known_iff.1 h i (by rw [List.mem_singleton.1 hi]; simp))
    refine ext_2a (ext_2b (does_of (run_neI w2) ?_))
    rw [show (!decide ((7 : Int) = 0)) = true from rfl, condP_true]
    exact ⟨hE3, _, [], by rw [if_neg hk2], Own.nil _ _ _, by rw [if_neg hk2]⟩
  rw [if_pos hkb] at hv
  have hk2 : known G (b :: ids) = true := known_iff.2 fun i hi => by
    rcases List.mem_cons.1 hi with rfl | hi
    · exact known_iff.1 hkb _ (by simp)
    · exact known_iff.1 hk i hi
  simp only [hk2, if_true]
  obtain ⟨tb, tm, rfl, htb, htm, htkeys⟩ := hv
  refine ext_2a (ext_2b (does_of (run_neI w2) ?_))
  rw [show (!decide ((0 : Int) = 0)) = false from rfl, condP_false]
  refine does_of (run_makeMap' _ w2) ?_
  have hE4 : Ext w2 (w2.alloc (.map #[] 0)) := (Ext.refl w2).alloc _
  have hfm2 := (hfm.ext (hA0.trans hE2)).ext hE4
  obtain ⟨o, hrunR, hit⟩ := hfm2.range u_ints
  refine does_of hrunR ?_
  have hE5 : Ext (w2.alloc (.map #[] 0)) ((w2.alloc (.map #[] 0)).alloc o) := (Ext.refl _).alloc _
  have hfl : fb < w2.heap.size := (hfm.ext (hA0.trans hE2)).lt
  have htl : tb < w2.heap.size := htm.lt
  have hsz : (w2.alloc (.map #[] 0)).heap.size = w2.heap.size + 1 := by simp
  have hw2 : w.heap.size ≤ w2.heap.size := hE3.size
  refine rounds0 (σ := BasesSt) (fun s W => Ext w2 W ∧ MapAt W w2.heap.size s.com ∧ Iter W (w2.alloc (.map #[] 0)).heap.size fb fm s.rest ∧ (s.done ++ keysOf s.rest).Perm (keysOf fm) ∧ (∀ k, k ∈ keysOf s.com ↔ k ∈ s.done ∧ k ∈ keysOf tm))
    (fun s _ => s.rest.length) ⟨[], fm, []⟩ ⟨hE4.trans hE5, (map_made w2).ext hE5, hit, by simp, by simp [keysOf]⟩ ?_
  rintro next ⟨com, rest, done⟩ W ⟨hEW, hcom, hi, hp, hc⟩ hnext _
  simp only at hEW hcom hi hp hc ⊢
  rcases hi.next (P := Try.prog) 0 with ⟨rfl, hrun⟩ | ⟨k, v, rest', W2, hperm, _, hrun, hi2, hmod, hszn, hent⟩
  · refine does_of hrun (ext_1 ?_)
    rw [condP_false]
    have hds : done.Perm (keysOf fm) := by simpa [keysOf] using hp
    have hcommem : ∀ k, k ∈ keysOf com ↔ Anc G ids k ∧ Anc G [b] k := fun k => by rw [hc k, hds.mem_iff, hfkeys, htkeys]
    have hcl : com.length ≤ G.length := by
      have := nodup_le hcom.nodup (m := idsOf G) fun k hx => ((hcommem k).1 hx).1.known hA.fits.closed hk
      simpa [keysOf, idsOf] using this
    refine (nearest_spec (h.ext (hE3.trans hEW)) hA.fits hK hcom (by omega)).mono fun v w3 ⟨h1, L, h2, h3⟩ => ⟨(hE3.trans hEW).trans h1, v, L, rfl, h2.mono (hE3.trans hEW).size, ?_⟩
    refine ⟨h3.1, fun k => (h3.2 k).trans ?_⟩
    unfold Near
    simp only [hcommem]
  · refine does_of hrun (ext_3a ?_)
    rw [condP_true]
    refine does_of hent (ext_2a ?_)
    have hEW2 : Ext w2 W2 := Mod.ext hEW hmod (fun k hk => by cases hk; omega)
    have hcom2 : MapAt W2 w2.heap.size com := hcom.mod hmod (by simp <;> omega)
    have hplen : rest.length = rest'.length + 1 := by simpa using hperm.length_eq
    have hpn : (done ++ [k] ++ keysOf rest').Perm (keysOf fm) := by
      refine List.Perm.trans ?_ hp
      rw [List.append_assoc]
      refine List.Perm.append_left done ?_
      have := hperm.map (·.1)
      simpa [keysOf] using this.symm
    refine does_of ((htm.ext hEW2).lookupOk u_ints u_str (zero_int W2) k) (ext_2a (ext_2b (condP_of (fun hin => ?_) fun hout => ?_)))
    · simp only [decide_eq_true_eq] at hin
      obtain ⟨W3, hrunU, hcom3, hmod3, _⟩ := hcom2.update (P := Try.prog) u_ints u_str k (.int .i64 1)
      refine does_of hrunU (hnext ⟨ins com k (.int .i64 1), rest', done ++ [k]⟩ W3 ⟨Mod.ext hEW2 hmod3 (fun k hk => by cases hk; exact Nat.le_refl _), hcom3, hi2.mod hmod3 (by simp <;> omega) (by simp <;> omega), hpn, fun p => ?_⟩ (by simp only; omega))
      simp only
      rw [mem_keysOf_ins, hc p, List.mem_append, List.mem_singleton]
      constructor
      · rintro (rfl | ⟨h1, h2⟩)
        · exact ⟨.inr rfl, hin⟩
        · exact ⟨.inl h1, h2⟩
      · rintro ⟨h1 | h1, h2⟩
        · exact .inr ⟨h1, h2⟩
        · exact .inl h1
    · simp only [decide_eq_false_iff_not] at hout
      refine hnext ⟨com, rest', done ++ [k]⟩ W2 ⟨hEW2, hcom2, hi2, hpn, fun p => ?_⟩ (by simp only; omega)
      simp only
      rw [hc p, List.mem_append, List.mem_singleton]
      constructor
      · rintro ⟨h1, h2⟩; exact ⟨.inl h1, h2⟩
      · rintro ⟨h1 | h1, h2⟩
        · exact ⟨h1, h2⟩
        · rw [h1] at h2; exact absurd h2 hout
end Go.Proofs.Ytcncgkkilgmphaa
