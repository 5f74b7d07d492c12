/-
  Contract of the document's graph: a commit added, whole.
-/
import Derived.Test.YtcncgkkilgmphaaRa
set_option linter.unusedVariables false
set_option linter.unusedSimpArgs false
namespace Go.Proofs.Ytcncgkkilgmphaa
open Go Go.RowKit

theorem usort_le_ids {G : List Cm} {ps : List ByteArray} (hk : known G ps = true) : (usort ps).length ≤ G.length := by
  have := nodup_le (usort_strict ps).nodup (m := idsOf G) fun x hx => known_iff.1 hk x (mem_usort.1 hx)
  rw [idsOf_length] at this
  exact this
theorem addr_add {a : Addr} {j : Nat} (h : (a.add j).spot = none) : (a.add j) = ⟨a.block, a.off + j, none⟩ := by
  obtain ⟨b, o, sp⟩ := a
  unfold Addr.add at h ⊢
  split at h <;> simp_all
theorem RGc.added {w W : World} {T : Nat → Prop} {xb : Nat} {sI sP sS c0 c1 c2 : Value} {rows : List Value} {G : List Cm} {id : ByteArray} {ps : List ByteArray} {st : Int}
    (hc : RGc w T xb sI sP sS rows G) (hm : ModIn (MX xb sI sP sS) w W) (hx : XB W xb c0 c1 c2) (hI : FI w sI G id c0 W) (hP : FP w sP rows ps c1 W) (hS : FS w sS G st c2 W) (hid : id ∉ idsOf G) (hk : known G ps = true) :
    RG W (fun k => T k ∨ w.heap.size ≤ k) (.pointer (some ⟨xb, 0, none⟩)) (G ++ [⟨id, usort ps, st⟩]) := by
  obtain ⟨r, hP1, hP2, hP3⟩ := hP
  have hgl : (G ++ [⟨id, usort ps, st⟩] : List Cm).length = G.length + 1 := by simp
  have hids : idsOf (G ++ [⟨id, usort ps, st⟩]) = idsOf G ++ [id] := by simp [idsOf]
  have hmx : ∀ k, MX xb c0 c1 c2 k → MX xb sI sP sS k ∨ w.heap.size ≤ k := by
    rintro k (h | h | h | h)
    · exact .inl (.inl h)
    · exact (hI.2.1 k h).imp (fun h => .inr (.inl h)) fun h => h
    · exact (hP2 k h).imp (fun h => .inr (.inr (.inl h))) fun h => h
    · exact (hS.2 k h).imp (fun h => .inr (.inr (.inr h))) fun h => h
  refine ⟨xb, c0, c1, c2, rows ++ [r], rfl, hx, by rw [hids]; exact hI.1, hP1, by simpa [stampsV] using hS.1, ?_, ?_, fun k hk2 => (hmx k hk2).imp (hc.inT k) fun h => h⟩
  · refine rowsR.append (hc.rows.imp fun s c _ hr => ?_) ?_
    · -- an old row
      obtain ⟨⟨hrow, hblk⟩, hpre⟩ := hr
      have hlt : ∀ a n cc, s = .slice (some a) n cc → strsV c.ps ≠ [] → a.block < w.heap.size := by
        intro a n cc hs hne
        obtain ⟨a', c', hs', _, hcell⟩ := hrow
        cases hx : strsV c.ps with
        | nil => exact absurd hx hne
        | cons y l =>
          obtain ⟨ad, g1, g2⟩ := hcell 0 y (by rw [hx]; rfl)
          rw [hs] at hs'
          simp only [Value.slice.injEq] at hs'
          rw [← hs'.1] at g1
          cases g1
          have := World.block_lt_of_cell? w _ g2
          rwa [add_block] at this
      refine ⟨⟨?_, fun a n cc hs hne => ?_⟩, fun a n cc hs hne hb => ?_⟩
      · obtain ⟨a, cc, hs, hl, hcell⟩ := hrow
        refine ⟨a, cc, hs, hl, fun j x hj => ?_⟩
        obtain ⟨ad, g1, g2⟩ := hcell j x hj
        refine ⟨ad, g1, ?_⟩
        subst g1
        have hne : strsV c.ps ≠ [] := by intro e; rw [e] at hj; cases hj
        have hb := hblk ad _ _ hs hne
        have hjl : j < (strsV c.ps).length := (List.getElem?_eq_some_iff.1 hj).1
        by_cases hin : sI.ownBlock = some ad.block
        · have hp := hpre ad _ _ hs hne hin
          have hsp := addr_add (cell_spot g2)
          rcases hI.2.2 with h | h
          · -- in its place
            have hcg : c0.ownBlock = some ad.block := h.trans hin
            have hlen : ad.off + j < (idsOf G).length := by rw [idsOf_length]; omega
            have hold := own_cell hc.ids hin (List.getElem?_eq_getElem hlen)
            have hnew := own_cell hI.1 hcg (i := ad.off + j) (x := (idsOf G)[ad.off + j]) (by rw [List.getElem?_append_left hlen]; exact List.getElem?_eq_getElem hlen)
            rw [hsp] at g2 ⊢
            rw [hold] at g2
            rw [hnew]
            exact g2
          · obtain ⟨cur, hcur⟩ := hc.ids.block hin
            refine cell_of_block ?_ g2
            rw [add_block, h _ _ hin hcur, hcur]
        · refine hm.cell ?_ g2
          rw [add_block]
          rintro (e | e | e | e)
          · exact hb.2.1 e
          · exact hin e
          · exact hb.2.2.1 e
          · exact hb.2.2.2 e
      · have hb := hblk a n cc hs hne
        have hl := hlt a n cc hs hne
        refine ⟨.inl hb.1, hb.2.1, fun e => ?_, fun e => ?_⟩
        · rcases hP2 _ e with h | h
          · exact hb.2.2.1 h
          · omega
        · rcases hS.2 _ e with h | h
          · exact hb.2.2.2 h
          · omega
      · have hl := hlt a n cc hs hne
        rw [hgl]
        rcases hI.2.1 _ hb with h | h
        · have := hpre a n cc hs hne h
          omega
        · omega
    · -- the new row
      have hr1 := hP3.row
      refine ⟨⟨hr1, fun a n cc hs hne => ?_⟩, fun a n cc hs hne hb => ?_⟩
      · have hob : r.ownBlock = some a.block := by rw [hs]; rfl
        have hge := hP3.ge _ hob
        refine ⟨.inr hge, fun e => by have := hc.xb.lt; omega, fun e => ?_, fun e => ?_⟩
        · rcases own_ne_own hP3 hP1 (by decide) with h | h
          · rw [hob] at h; cases h
          · exact h (hob.trans e.symm)
        · rcases own_ne_own hP3 hS.1 (by decide) with h | h
          · rw [hob] at h; cases h
          · exact h (hob.trans e.symm)
      · have hoff : a.off = 0 := by
          rcases hP3.2 with ⟨h, _⟩ | ⟨g, cap, cur, h, _⟩
          · rw [h] at hs; cases hs
          · rw [h] at hs
            simp only [Value.slice.injEq, Option.some.injEq] at hs
            rw [← hs.1]
        have := usort_le_ids hk
        simp only [strsV_length, hoff, hgl]
        omega
  · rw [hids]
    refine List.nodup_append.2 ⟨hc.nodup, by simp, fun a ha b hb => ?_⟩
    rw [List.mem_singleton.1 hb]
    rintro rfl
    exact hid ha
theorem radd_spec {w : World} {T : Nat → Prop} {v pv : Value} {G : List Cm} {id : ByteArray} {ps : List ByteArray} {st : Int} (h : RG w T v G) (hr : RowIn (fun k => ¬ T k) w pv (strsV ps)) (hl : ps.length ≤ 1099511627776) :
    Call Try.prog 23 #[v, .string id, pv, .int .i64 st] w fun r w' => r = .int .i64 (addG G id ps st).1 ∧ ModIn T w w' ∧ RG w' (fun k => T k ∨ w.heap.size ≤ k) v (addG G id ps st).2 := by
  apply vc23
  unfold V23
  have same : ∀ {w' : World}, Ext w w' → ModIn T w w' ∧ RG w' (fun k => T k ∨ w.heap.size ≤ k) v G := fun hE => ⟨ModIn.ofExt hE, (h.ext hE).mono fun k _ hk => .inl hk⟩
  have hrow := hr.1
  unfold addG
  refine does_eqS (condP_of (fun he => ?_) fun he => ?_)
  · simp only [decide_eq_true_eq] at he
    rw [if_pos he]
    exact ⟨rfl, same (Ext.refl w)⟩
  simp only [decide_eq_false_iff_not] at he
  rw [if_neg he]
  refine (at_spec h).mono fun v1 w1 ⟨hv1, hw1⟩ => ?_
  subst hv1
  rw [hw1]
  refine does_ge (condP_of (fun hi => ?_) fun hi => ?_)
  · have hi' : id ∈ idsOf G := by
      by_cases hm : id ∈ idsOf G
      · exact hm
      · rw [atG_none hm] at hi; simp at hi
    rw [if_pos hi']
    exact ⟨rfl, same (Ext.refl w)⟩
  have hi' : id ∉ idsOf G := by
    intro hm
    obtain ⟨i, c, h1, _⟩ := atG_some hm
    rw [h1] at hi
    simp at hi
  rw [if_neg hi']
  refine rounds1 (fun i : Nat => .int .i64 i) (fun i W => i ≤ ps.length ∧ W = w ∧ known G (ps.take i) = true) (fun i _ => ps.length - i) 0 rfl ⟨by omega, rfl, by simp [known]⟩ ?_
  rintro next i W ⟨hil, hW, hkn⟩ hnext _
  rw [hW]
  refine hrow.len u_strs (does_lt (condP_of (fun hlt => ?_) fun hge => ?_))
  · have hlt' : i < ps.length := by simpa using hlt
    refine hrow.index u_strs sz_str (by simpa using hlt') fun p hp => does_load1 agg_str hp ?_
    rw [strsV_get hlt']
    refine (at_spec h).mono fun v3 w3 ⟨hv3, hw3⟩ => ?_
    subst hv3
    rw [hw3]
    refine does_lt (condP_of (fun hn => ?_) fun hn => ?_)
    · have hno : ps[i] ∉ idsOf G := by
        intro hm
        obtain ⟨j, c, h1, _⟩ := atG_some hm
        rw [h1] at hn
        simp at hn
        omega
      have : known G ps = false := by
        unfold known
        rw [List.all_eq_false]
        exact ⟨ps[i], by simp, by simpa using hno⟩
      rw [if_pos this]
      exact ⟨rfl, same (Ext.refl w)⟩
    · have hyes : ps[i] ∈ idsOf G := by
        by_cases hm : ps[i] ∈ idsOf G
        · exact hm
        · rw [atG_none hm] at hn; simp at hn
      refine does_add (by omega) (by omega) (hnext (i + 1) _ w (by simp) ⟨by omega, rfl, ?_⟩ (by omega))
      rw [take_succ hlt']
      unfold known at hkn ⊢
      rw [List.all_append, hkn]
      simp [hyes]
  · have hie : i = ps.length := by
      have : ¬ i < ps.length := by simpa using hge
      omega
    subst hie
    rw [List.take_length] at hkn
    have hkn' : ¬ known G ps = false := by simp [hkn]
    rw [if_neg hkn']
    refine rounds1 (fun i : Nat => .int .i64 i) (fun i W => i ≤ ps.length ∧ Ext w W ∧ ∀ p ∈ ps.take i, ¬ st ≤ (cmOf G p).elim 0 (·.st)) (fun i _ => ps.length - i) 0 rfl ⟨by omega, Ext.refl _, by simp⟩ ?_
    rintro next2 i W2 ⟨hil2, hE, hall⟩ hnext2 _
    refine (hrow.ext hE).len u_strs (does_lt (condP_of (fun hlt => ?_) fun hge2 => ?_))
    · have hlt' : i < ps.length := by simpa using hlt
      have hyes := known_iff.1 hkn ps[i] (by simp)
      obtain ⟨j, c, h1, hgj, hcm, hjl⟩ := atG_some hyes
      have h0 := h
      obtain ⟨xb, sI, sP, sS, rows, rfl, hcc⟩ := h0
      refine q23_13 (Ext W2) (Ext.drawn _) fun _ => ?_
      rw [nilP_some]
      refine q_step (fun W _ => (run_fieldX xb W).2.2) (q_step (fun W hW => ((hcc.ext hE).ext hW).loads.2.2) ?_)
      refine q_text (hrow.ext hE) (List.getElem?_eq_getElem hlt') ?_
      refine qcall_of (.int .i64 (atG G ps[i])) (fun W hW => (at_spec ((h.ext hE).ext hW)).mono fun u W' ⟨g1, g2⟩ => ⟨g1, by rw [g2]; exact hW⟩) ?_
      rw [h1]
      obtain ⟨hsl, hsg⟩ := stampsV_get hgj
      refine q_index (hcc.sts.ext hE).row u_islice sz_int hsl fun p hp => q_load agg_int hp ?_
      rw [hsg]
      refine q_run run_le ?_
      intro W3 hE3 _
      refine condP_of (fun hle => ?_) fun hgt => ?_
      · have hle' : st ≤ c.st := by simpa using hle
        rw [if_pos ((top_le ps).2 (.inr ⟨ps[i], by simp, by rw [hcm]; exact hle'⟩))]
        exact ⟨rfl, same (hE.trans hE3)⟩
      · have hgt' : ¬ st ≤ c.st := by simpa using hgt
        refine does_add (by omega) (by omega) (hnext2 (i + 1) _ W3 (by simp) ⟨by omega, hE.trans hE3, fun p hp => ?_⟩ (by omega))
        rw [take_succ hlt'] at hp
        rcases List.mem_append.1 hp with hp | hp
        · exact hall p hp
        · rw [List.mem_singleton.1 hp, hcm]
          exact hgt'
    · have hie : i = ps.length := by
        have : ¬ i < ps.length := by simpa using hge2
        omega
      subst hie
      rw [List.take_length] at hall
      refine does_lt (condP_of (fun hneg => ?_) fun hpos => ?_)
      · have hneg' : st < 0 := by simpa using hneg
        rw [if_pos ((top_le ps).2 (.inl (by omega)))]
        exact ⟨rfl, same hE⟩
      have hpos' : ¬ st < 0 := by simpa using hpos
      have htop : ¬ st ≤ topOf G ps := fun hh => by
        rcases (top_le ps).1 hh with h1 | ⟨p, hp, h1⟩
        · omega
        · exact hall p hp h1
      rw [if_neg htop]
      obtain ⟨xb, sI, sP, sS, rows, rfl, hcc⟩ := h.ext hE
      rw [nilP_some]
      refine does_of (run_fieldX xb W2).1 (does_of hcc.loads.1 (hcc.ids.row.len u_strs (does_ge (condP_of (fun hbig => ?_) fun hsm => ?_))))
      · have hbig' : 2000 ≤ G.length := by
          rw [strsV_length, idsOf_length] at hbig
          simp only [decide_eq_true_eq] at hbig
          omega
        rw [if_pos hbig']
        exact ⟨rfl, same hE⟩
      have hsm' : ¬ 2000 ≤ G.length := by
        rw [strsV_length, idsOf_length] at hsm
        simp only [decide_eq_false_iff_not] at hsm
        omega
      rw [if_neg hsm']
      refine radd_region (w0 := w) hcc (hr.ext hE) hl (by omega) fun W hmW ⟨c0, c1, c2, hx, hI, hP, hS⟩ _ => ⟨rfl, ?_, ?_⟩
      · exact ModIn.trans (T := T) (U := T) (ModIn.ofExt hE) (hmW.mono fun k _ hk => hcc.inT k hk) fun n hn _ => hn
      · refine (hcc.added hmW hx hI hP hS hi' hkn).mono fun k _ hk => hk.imp (fun h => h) fun h => Nat.le_trans hE.size h
end Go.Proofs.Ytcncgkkilgmphaa
