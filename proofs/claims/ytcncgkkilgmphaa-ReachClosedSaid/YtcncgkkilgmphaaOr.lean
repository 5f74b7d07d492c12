/-
  Contract: marref6.Decode, its drawn regions.
-/
import Derived.Test.YtcncgkkilgmphaaOq
set_option linter.unusedVariables false
set_option linter.unusedSimpArgs false
namespace Go.Proofs.Ytcncgkkilgmphaa
open Go Go.RowKit

structure RrQ (w0 W : World) (ab sb : Nat) (L : List UInt8) (dv iv pv : Value) (o : Ob) (s : Src) : Prop where
  e : Ext w0 W
  kab : OBlk W ab 38 dv iv pv o
  ksb : RdrB w0 W sb L s
  ga : w0.heap.size ≤ ab
  gs : w0.heap.size ≤ sb
  sl : ∃ a n c, dv = .slice a n c
  hL : L.length ≤ 1048577
structure RrSt (w0 W : World) (ab sb : Nat) (L : List UInt8) (dv iv pv : Value) (o : Ob) (s : Src) : Prop where
  q : RrQ w0 W ab sb L dv iv pv o s
  items : Own3 W w0.heap.size 87 iv o.items
  pars : Own W w0.heap.size 9 pv (strsV o.parents)
section
variable {w0 W W' : World} {ab sb : Nat} {L : List UInt8} {dv iv pv : Value} {o o' : Ob} {s s' : Src}
theorem RrQ.ext (h : RrQ w0 W ab sb L dv iv pv o s) (hE : Ext W W') : RrQ w0 W' ab sb L dv iv pv o s := ⟨h.e.trans hE, h.kab.ext hE, h.ksb.ext hE, h.ga, h.gs, h.sl, h.hL⟩
theorem RrSt.ext (h : RrSt w0 W ab sb L dv iv pv o s) (hE : Ext W W') : RrSt w0 W' ab sb L dv iv pv o s := ⟨h.q.ext hE, h.items.ext hE, h.pars.ext hE⟩
theorem RrQ.abk (h : RrQ w0 W ab sb L dv iv pv o s) : Kp ab (ObC dv iv pv o) 38 W := h.kab
theorem RrQ.src (h : RrQ w0 W ab sb L dv iv pv o s) (hm : Mod (some sb) W W') (hs : RdrB w0 W' sb L s') : RrQ w0 W' ab sb L dv iv pv o s' := by
  obtain ⟨cs, hk⟩ := h.ksb.kp
  exact ⟨Mod.ext h.e hm fun k hk => by cases hk; exact h.gs, h.abk.mod hm fun e => h.abk.ne hk (by decide) (by cases e; rfl), hs, h.ga, h.gs, h.sl, h.hL⟩
theorem RrSt.src (h : RrSt w0 W ab sb L dv iv pv o s) (hm : Mod (some sb) W W') (hs : RdrB w0 W' sb L s') : RrSt w0 W' ab sb L dv iv pv o s' := by
  obtain ⟨cs, hk⟩ := h.q.ksb.kp
  exact ⟨h.q.src hm hs, h.items.kept hm (.inr (Ne.symm (h.items.neK hk (by decide)))), h.pars.kept hm (.inr (Ne.symm (h.pars.neK hk (by decide))))⟩
theorem RrQ.obj {dv' iv' pv' : Value} (h : RrQ w0 W ab sb L dv iv pv o s) (hm : Mod (some ab) W W') (ha : OBlk W' ab 38 dv' iv' pv' o') (hd : ∃ a n c, dv' = .slice a n c) : RrQ w0 W' ab sb L dv' iv' pv' o' s := by
  obtain ⟨cs, hk⟩ := h.ksb.kp
  exact ⟨Mod.ext h.e hm fun k hk => by cases hk; exact h.ga, ha, h.ksb.mod hm fun e => hk.ne h.abk (by decide) (by cases e; rfl), h.ga, h.gs, hd, h.hL⟩
theorem RrQ.other {row : Option Nat} (h : RrQ w0 W ab sb L dv iv pv o s) (hm : Mod row W W') (hr : ∀ k, row = some k → w0.heap.size ≤ k) (h2 : some ab ≠ row) (h3 : some sb ≠ row) : RrQ w0 W' ab sb L dv iv pv o s :=
  ⟨Mod.ext h.e hm hr, h.kab.mod hm h2, h.ksb.mod hm h3, h.ga, h.gs, h.sl, h.hL⟩
end
def RrC (w0 : World) (ab sb : Nat) (L : List UInt8) (dv iv pv : Value) (o : Ob) (x : It) (s : Src) (nv : Value) (nm : List UInt8) (k : Nat) (W : World) : Prop :=
  OwnB w0 W nv nm ∧ match k with
  | 0 => RrSt w0 W ab sb L dv iv pv o s
  | 1 => RrSt w0 W ab sb L dv iv pv o (hashP s).2
  | 2 => RrSt w0 W ab sb L dv iv pv o (hashP s).2
  | 3 => RrQ w0 W ab sb L dv iv pv o (hashP s).2 ∧ Own W w0.heap.size 9 pv (strsV o.parents)
  | _ => ∃ iv', RrSt w0 W ab sb L dv iv' pv { o with items := o.items ++ [x] } (hashP s).2
theorem RrC.ext {w0 W W' : World} {ab sb : Nat} {L : List UInt8} {dv iv pv : Value} {o : Ob} {x : It} {s : Src} {nv : Value} {nm : List UInt8} {k : Nat} (h : RrC w0 ab sb L dv iv pv o x s nv nm k W) (hE : Ext W W') : RrC w0 ab sb L dv iv pv o x s nv nm k W' := by
  obtain ⟨h1, h2⟩ := h
  refine ⟨h1.ext hE, ?_⟩
  rcases k with _ | _ | _ | _ | k
  · exact RrSt.ext h2 hE
  · exact RrSt.ext h2 hE
  · exact RrSt.ext h2 hE
  · exact ⟨h2.1.ext hE, h2.2.ext hE⟩
  · obtain ⟨iv', h2⟩ := h2
    exact ⟨iv', RrSt.ext h2 hE⟩
theorem RrC.q {w0 W : World} {ab sb : Nat} {L : List UInt8} {dv iv pv : Value} {o : Ob} {x : It} {s : Src} {nv : Value} {nm : List UInt8} {k : Nat} (h : RrC w0 ab sb L dv iv pv o x s nv nm k W) (hk : k ≤ 3) : OBlk W ab 38 dv iv pv o := by
  obtain ⟨h1, h2⟩ := h
  rcases k with _ | _ | _ | _ | k
  · exact RrQ.kab (RrSt.q h2)
  · exact RrQ.kab (RrSt.q h2)
  · exact RrQ.kab (RrSt.q h2)
  · exact RrQ.kab h2.1
  · omega
def FTr (x : It) (k : Nat) (v : Value) (W : World) : Prop := k ≤ 2 → ∃ g, v = .slice (some ⟨g, 0, none⟩) 1 1 ∧ Kp g (cellsI x).toArray 87 W
theorem FTr.off {x : It} {k : Nat} {v : Value} {W : World} (h : ¬ k ≤ 2) : FTr x k v W := fun e => absurd e h
theorem FTr.st (x : It) (k : Nat) : FSt Ext (FTr x k) := fun v W W' hE h hk => by obtain ⟨g, g1, g2⟩ := h hk; exact ⟨g, g1, g2.ext hE⟩
theorem FTr.keep {x : It} {k k' : Nat} {v : Value} {W W' : World} {b : Nat} {cs : Array Value} {t : TypeId} (h : FTr x k v W) (hk : k ≤ 2) (hb : Kp b cs t W) (ht : t ≠ 87) (hm : Mod (some b) W W') : FTr x k' v W' := fun _ => by
  obtain ⟨g, g1, g2⟩ := h hk
  exact ⟨g, g1, g2.mod hm fun e => g2.ne hb (Ne.symm ht) (by cases e; rfl)⟩
theorem region15_15 {w0 W : World} {ab sb : Nat} {L : List UInt8} {dv iv pv nv : Value} {o : Ob} {s : Src} {mode : Int} {nm : List UInt8} {J : VF 0} (h : RrSt w0 W ab sb L dv iv pv o s) (hn : OwnB w0 W nv nm) (hl : o.items.length ≤ 1099511627000)
    (hJ : ∀ W' iv', RrSt w0 W' ab sb L dv iv' pv { o with items := o.items ++ [⟨mode, mkS nm, (hashP s).1⟩] } (hashP s).2 → J W') :
    DrawP Try.prog 132 (opsOf Try.f15 15) [4, 5, 8, 9] [.pointer (some ⟨sb, 0, none⟩), .pointer (some ⟨ab, 0, none⟩), .int .i64 mode, nv] [] J W := by
  have hE := h.q.e
  have fO := fun W => run_field_r ab W
  refine h15_15 w0 (RrC w0 ab sb L dv iv pv o ⟨mode, mkS nm, (hashP s).1⟩ s nv nm) (FoB w0 1 (takeP s 32).1) (FcV (.string (hashP s).1)) (FcV (.agg (cellsI ⟨mode, mkS nm, (hashP s).1⟩).toArray)) (FTr ⟨mode, mkS nm, (hashP s).1⟩)
    (fun k v W => k = 3 → Own3 W w0.heap.size 87 v (o.items ++ [⟨mode, mkS nm, (hashP s).1⟩])) hE (FoB.st _ _ _) (FcV.st _) (FcV.st _) (FTr.st _) (fun k v W W' hE h hk => (h hk).ext hE) ⟨hn.ext (Ext.drawn W), h.ext (Ext.drawn W)⟩ ?_
  refine qx (fun W => (fO W).2.2.1) (qc (fun W' hS => by obtain ⟨_, k, _, hk, hC⟩ := hS; exact run_load1 agg_items_r (hC.q (by omega)).cell.2.2.1) (qc (fun W' hS => by obtain ⟨_, k, _, _, hC⟩ := hS; exact run_conv_str hC.1.row) (qx (fun W => (fO W).2.2.1) ⟨?_, ?_, ?_, ?_, ?_, ?_, ?_⟩)))
  · intro W1 hA hC
    have hR : RrSt w0 W1 ab sb L dv iv pv o s := hC.2
    obtain ⟨cs, hk⟩ := hR.q.ksb.kp
    refine (rtake_spec (n := 32) hR.q.ksb hR.q.e hR.q.gs hR.q.hL).mono fun v W2 ⟨g1, g2, g3⟩ => ?_
    have hR2 := hR.src g3 g2
    exact ⟨⟨g3.size, hR2.q.e⟩, ⟨Own.kept hC.1 g3 (.inr (Ne.symm (hC.1.ne hk (by decide)))), hR2⟩, fun _ => g1, fun v hv => hv.keep (by omega) hk (by decide) g3, trivial⟩
  · intro t W1 hA hC hF
    have hl32 : (takeP s 32).1.length ≤ 32 := (takeP_len s 32).2.1
    have hR : RrSt w0 W1 ab sb L dv iv pv o (hashP s).2 := hC.2
    refine (rhex_spec (hF rfl).row (by omega)).mono fun v W2 ⟨g1, g2⟩ => ⟨⟨g2.size, hA.2.trans g2⟩, ⟨hC.1.ext g2, hR.ext g2⟩, g1, (by intros; exact FoB.off (by omega)), fun v hv _ => by obtain ⟨g, e1, e2⟩ := hv (by omega); exact ⟨g, e1, e2.ext g2⟩, trivial⟩
  · rintro t k hk1 hk2 W1 hA hC rfl
    exact does_of (run_buildI_r ⟨mode, mkS nm, (hashP s).1⟩ W1) ⟨Ext.refl _, hC, rfl⟩
  · rintro t k hk1 hk2 W1 hA hC rfl
    exact does_of (run_buildSliceI_r _ W1) ⟨ext_any _ W1, hC.ext (ext_any _ W1), fun _ => ⟨_, rfl, heap_alloc_new W1 _⟩⟩
  · intro t W1 hA hC hF
    have hR : RrSt w0 W1 ab sb L dv iv pv o (hashP s).2 := hC.2
    obtain ⟨g, rfl, hg⟩ := hF (by omega)
    obtain ⟨cs, hk⟩ := hR.q.ksb.kp
    refine hR.items.push_r (ir_one hg) (by omega) hR.q.e.size fun v W2 g1 g2 g3 => ?_
    have q2 := hR.items.neK hR.q.abk (by decide)
    have q3 := hR.items.neK hk (by decide)
    have hR2 := hR.q.other g2 (fun k hk => (hR.items.lt k hk).1) q2 q3
    have hother : ∀ {b : Nat} {cur : Array Value} {t : TypeId}, W1.heap[b]? = some (.cells cur t) → t ≠ 87 → some b ≠ iv.ownBlock := fun hc ht => hR.items.neK hc ht
    refine ⟨⟨g2.size, hR2.e⟩, ⟨Own.kept hC.1 g2 ?_, hR2, hR.pars.kept g2 ?_⟩, fun _ => g1, (by intros; exact FoB.off (by omega)), (by intros; assumption), (by intros; assumption), (by intros; exact FTr.off (by omega)), trivial⟩
    · by_cases hp : nv.ownBlock = none
      · exact .inl hp
      · refine .inr fun e => ?_
        obtain ⟨b, hb⟩ := Option.ne_none_iff_exists'.1 hp
        obtain ⟨cur, hc⟩ := Own.block' hC.1 b hb
        exact hother hc (by decide) (by rw [← e, hb])
    · by_cases hp : pv.ownBlock = none
      · exact .inl hp
      · refine .inr fun e => ?_
        obtain ⟨b, hb⟩ := Option.ne_none_iff_exists'.1 hp
        obtain ⟨cur, hc⟩ := hR.pars.block' b hb
        exact hother hc (by decide) (by rw [← e, hb])
  · intro t W1 hA hC hF
    obtain ⟨hN, hQ, hP⟩ : OwnB w0 W1 nv nm ∧ RrQ w0 W1 ab sb L dv iv pv o (hashP s).2 ∧ Own W1 w0.heap.size 9 pv (strsV o.parents) := hC
    have hI := hF rfl
    obtain ⟨a, n, c, rfl⟩ := own3_slice hI
    have hm := Mod.setCell W1 ab 2 (.slice a n c)
    have hQ2 := hQ.obj hm (hQ.kab.set2 (o.items ++ [⟨mode, mkS nm, (hashP s).1⟩]) (.slice a n c)) hQ.sl
    exact does_of (run_store1 sz_items_r rfl rfl (hQ.kab.cell.2.2.1) (hQ.kab.cell.2.2.2.2.2.2.2.2 2)) ⟨⟨hm.size, hQ2.e⟩, ⟨Own.kept hN hm (.inr (Ne.symm (hN.ne hQ.abk (by decide)))), .slice a n c, hQ2, hI.kept hm (.inr (Ne.symm (hI.neK hQ.abk (by decide)))), hP.kept hm (.inr (Ne.symm (hP.neK hQ.abk (by decide))))⟩, trivial, (by intros; exact FoB.off (by omega)), (by intros; assumption), (by intros; assumption), (by intros; exact FTr.off (by omega)), (by intros; omega), trivial⟩
  · intro W1 hA hC
    obtain ⟨iv', hR⟩ : ∃ iv', RrSt w0 W1 ab sb L dv iv' pv { o with items := o.items ++ [⟨mode, mkS nm, (hashP s).1⟩] } (hashP s).2 := hC.2
    exact hJ W1 iv' hR
def RrD (w0 : World) (ab sb : Nat) (L : List UInt8) (dv iv pv : Value) (o : Ob) (x : ByteArray) (s : Src) (k : Nat) (W : World) : Prop :=
  match k with
  | 0 => RrSt w0 W ab sb L dv iv pv o s
  | 1 => RrSt w0 W ab sb L dv iv pv o (hashP s).2
  | 2 => RrSt w0 W ab sb L dv iv pv o (hashP s).2
  | 3 => RrQ w0 W ab sb L dv iv pv o (hashP s).2 ∧ Own3 W w0.heap.size 87 iv o.items
  | _ => ∃ pv', RrSt w0 W ab sb L dv iv pv' { o with parents := o.parents ++ [x] } (hashP s).2
theorem RrD.ext {w0 W W' : World} {ab sb : Nat} {L : List UInt8} {dv iv pv : Value} {o : Ob} {x : ByteArray} {s : Src} {k : Nat} (h : RrD w0 ab sb L dv iv pv o x s k W) (hE : Ext W W') : RrD w0 ab sb L dv iv pv o x s k W' := by
  match k, h with
  | 0, h => exact RrSt.ext h hE
  | 1, h => exact RrSt.ext h hE
  | 2, h => exact RrSt.ext h hE
  | 3, h => exact ⟨h.1.ext hE, h.2.ext hE⟩
  | n + 4, ⟨iv', h⟩ => exact ⟨iv', RrSt.ext h hE⟩
theorem RrD.q {w0 W : World} {ab sb : Nat} {L : List UInt8} {dv iv pv : Value} {o : Ob} {x : ByteArray} {s : Src} {k : Nat} (h : RrD w0 ab sb L dv iv pv o x s k W) (hk : k ≤ 3) : OBlk W ab 38 dv iv pv o := by
  match k, h, hk with
  | 0, h, _ => exact RrQ.kab (RrSt.q h)
  | 1, h, _ => exact RrQ.kab (RrSt.q h)
  | 2, h, _ => exact RrQ.kab (RrSt.q h)
  | 3, h, _ => exact RrQ.kab h.1
theorem region15_22 {w0 W : World} {ab sb : Nat} {L : List UInt8} {dv iv pv : Value} {o : Ob} {s : Src} {J : VF 0} (h : RrSt w0 W ab sb L dv iv pv o s) (hl : o.parents.length ≤ 1099511627000)
    (hJ : ∀ W' pv', RrSt w0 W' ab sb L dv iv pv' { o with parents := o.parents ++ [(hashP s).1] } (hashP s).2 → J W') :
    DrawP Try.prog 132 (opsOf Try.f15 22) [4, 5] [.pointer (some ⟨sb, 0, none⟩), .pointer (some ⟨ab, 0, none⟩)] [] J W := by
  have hE := h.q.e
  have fO := fun W => run_field_r ab W
  refine h15_22 w0 (RrD w0 ab sb L dv iv pv o (hashP s).1 s) (FoB w0 1 (takeP s 32).1) (FcV (.string (hashP s).1)) (fun k v W => k = 2 → Row W v (strsV [(hashP s).1]))
    (fun k v W => k = 3 → Own W w0.heap.size 9 v (strsV (o.parents ++ [(hashP s).1]))) hE (FoB.st _ _ _) (FcV.st _) (fun k v W W' hE h hk => (h hk).ext hE) (fun k v W W' hE h hk => (h hk).ext hE) (h.ext (Ext.drawn W)) ?_
  refine qx (fun W => (fO W).2.2.2.2.1) (qc (fun W' hS => by obtain ⟨_, k, _, hk, hC⟩ := hS; exact run_load1 agg_strsl (hC.q (by omega)).cell.2.2.2.2.1) (qx (fun W => (fO W).2.2.2.2.1) ⟨?_, ?_, ?_, ?_, ?_, ?_⟩))
  · intro W1 hA hC
    have hR : RrSt w0 W1 ab sb L dv iv pv o s := hC
    refine (rtake_spec (n := 32) hR.q.ksb hR.q.e hR.q.gs hR.q.hL).mono fun v W2 ⟨g1, g2, g3⟩ => ?_
    have hR2 := hR.src g3 g2
    exact ⟨⟨g3.size, hR2.q.e⟩, hR2, fun _ => g1, trivial⟩
  · intro t W1 hA hC hF
    have hl32 : (takeP s 32).1.length ≤ 32 := (takeP_len s 32).2.1
    have hR : RrSt w0 W1 ab sb L dv iv pv o (hashP s).2 := hC
    exact (rhex_spec (hF rfl).row (by omega)).mono fun v W2 ⟨g1, g2⟩ => ⟨⟨g2.size, hA.2.trans g2⟩, hR.ext g2, g1, (by intros; exact FoB.off (by omega)), trivial⟩
  · rintro t W1 hA hC rfl
    refine does_of (run_one_str _ W1) ⟨ext_any _ W1, hC.ext (ext_any _ W1), fun _ => (own_one_str _ W1).row⟩
  · intro t W1 hA hC hF
    have hR : RrSt w0 W1 ab sb L dv iv pv o (hashP s).2 := hC
    obtain ⟨cs, hk⟩ := hR.q.ksb.kp
    refine hR.pars.append u_strs info_str rfl (hF rfl) (strsV_one _) (by simp; omega) (by omega) hR.q.e.size fun v W2 g1 g2 g3 => ?_
    have q2 := hR.pars.neK hR.q.abk (by decide)
    have q3 := hR.pars.neK hk (by decide)
    have hR2 := hR.q.other g2 (fun k hk => (hR.pars.lt k hk).1) q2 q3
    refine ⟨⟨g2.size, hR2.e⟩, ⟨hR2, hR.items.kept g2 ?_⟩, fun _ => by rw [strsV_append]; exact g1, (by intros; exact FoB.off (by omega)), (by intros; assumption), (by intros; omega), trivial⟩
    by_cases hp : iv.ownBlock = none
    · exact .inl hp
    · refine .inr fun e => ?_
      obtain ⟨b, hb⟩ := Option.ne_none_iff_exists'.1 hp
      obtain ⟨cur, hc⟩ := hR.items.block b hb
      exact hR.pars.neK (t := 87) hc (by decide) (by rw [← e, hb])
  · intro t W1 hA hC hF
    obtain ⟨hQ, hI⟩ : RrQ w0 W1 ab sb L dv iv pv o (hashP s).2 ∧ Own3 W1 w0.heap.size 87 iv o.items := hC
    have hP := hF rfl
    obtain ⟨a, n, c, rfl⟩ := own_slice hP
    have hm := Mod.setCell W1 ab 4 (.slice a n c)
    have hQ2 := hQ.obj hm (hQ.kab.set4 (o.parents ++ [(hashP s).1]) (.slice a n c)) hQ.sl
    exact does_of (run_store1 sz_strs' rfl rfl (hQ.kab.cell.2.2.2.2.1) (hQ.kab.cell.2.2.2.2.2.2.2.2 4)) ⟨⟨hm.size, hQ2.e⟩, ⟨.slice a n c, hQ2, hI.kept hm (.inr (Ne.symm (hI.neK hQ.abk (by decide)))), hP.kept hm (.inr (Ne.symm (hP.neK hQ.abk (by decide))))⟩, trivial, (by intros; exact FoB.off (by omega)), (by intros; assumption), (by intros; omega), (by intros; omega), trivial⟩
  · intro W1 hA hC
    obtain ⟨pv', hR⟩ : ∃ pv', RrSt w0 W1 ab sb L dv iv pv' { o with parents := o.parents ++ [(hashP s).1] } (hashP s).2 := hC
    exact hJ W1 pv' hR
section
variable {w0 W : World} {ab sb : Nat} {L : List UInt8} {dv iv pv : Value} {o : Ob} {s : Src} {k : Unit → World → Prop}
theorem RrSt.set {dv' : Value} {o' : Ob} {i : Nat} {x : Value} (h : RrSt w0 W ab sb L dv iv pv o s) (ha : OBlk (W.setCell ⟨ab, i, none⟩ x) ab 38 dv' iv pv o') (hd : ∃ a n c, dv' = .slice a n c) (hi : o'.items = o.items) (hp : o'.parents = o.parents) : RrSt w0 (W.setCell ⟨ab, i, none⟩ x) ab sb L dv' iv pv o' s := by
  have hm := Mod.setCell W ab i x
  exact ⟨h.q.obj hm ha hd, by rw [hi]; exact h.items.kept hm (.inr (Ne.symm (h.items.neK h.q.abk (by decide)))), by rw [hp]; exact h.pars.kept hm (.inr (Ne.symm (h.pars.neK h.q.abk (by decide))))⟩
theorem RrSt.set3 {x : ByteArray} (h : RrSt w0 W ab sb L dv iv pv o s) (hk : ∀ W', RrSt w0 W' ab sb L dv iv pv { o with tree := x } s → k () W') : Does Try.prog (Instr.fieldAt 38 (.pointer (some ⟨ab, 0, none⟩)) 3) W fun t w => Does Try.prog (Instr.storeAt 9 t (.string x)) w k :=
  does_of (run_field_r ab W).2.2.2.1 (does_of (run_store1 sz_str rfl rfl h.q.kab.cell.2.2.2.1 (h.q.kab.cell.2.2.2.2.2.2.2.2 3)) (hk _ (h.set (h.q.kab.set3 x) h.q.sl rfl rfl)))
theorem RrSt.set5 {x : Int} (h : RrSt w0 W ab sb L dv iv pv o s) (hk : ∀ W', RrSt w0 W' ab sb L dv iv pv { o with stamp := x } s → k () W') : Does Try.prog (Instr.fieldAt 38 (.pointer (some ⟨ab, 0, none⟩)) 5) W fun t w => Does Try.prog (Instr.storeAt 3 t (.int .i64 x)) w k :=
  does_of (run_field_r ab W).2.2.2.2.2.1 (does_of (run_store1 sz_int' rfl rfl h.q.kab.cell.2.2.2.2.2.1 (h.q.kab.cell.2.2.2.2.2.2.2.2 5)) (hk _ (h.set (h.q.kab.set5 x) h.q.sl rfl rfl)))
theorem RrSt.set6 {x : Int} (h : RrSt w0 W ab sb L dv iv pv o s) (hk : ∀ W', RrSt w0 W' ab sb L dv iv pv { o with author := x } s → k () W') : Does Try.prog (Instr.fieldAt 38 (.pointer (some ⟨ab, 0, none⟩)) 6) W fun t w => Does Try.prog (Instr.storeAt 3 t (.int .i64 x)) w k :=
  does_of (run_field_r ab W).2.2.2.2.2.2.1 (does_of (run_store1 sz_int' rfl rfl h.q.kab.cell.2.2.2.2.2.2.1 (h.q.kab.cell.2.2.2.2.2.2.2.2 6)) (hk _ (h.set (h.q.kab.set6 x) h.q.sl rfl rfl)))
theorem RrSt.set7 {x : ByteArray} (h : RrSt w0 W ab sb L dv iv pv o s) (hk : ∀ W', RrSt w0 W' ab sb L dv iv pv { o with msg := x } s → k () W') : Does Try.prog (Instr.fieldAt 38 (.pointer (some ⟨ab, 0, none⟩)) 7) W fun t w => Does Try.prog (Instr.storeAt 9 t (.string x)) w k :=
  does_of (run_field_r ab W).2.2.2.2.2.2.2 (does_of (run_store1 sz_str rfl rfl h.q.kab.cell.2.2.2.2.2.2.2.1 (h.q.kab.cell.2.2.2.2.2.2.2.2 7)) (hk _ (h.set (h.q.kab.set7 x) h.q.sl rfl rfl)))
theorem RrSt.set1 {x : Value} {l : List UInt8} (h : RrSt w0 W ab sb L dv iv pv o s) (hx : ∃ a n c, x = .slice a n c) (hk : ∀ W', RrSt w0 W' ab sb L x iv pv { o with data := l } s → Mod (some ab) W W' → k () W') : Does Try.prog (Instr.fieldAt 38 (.pointer (some ⟨ab, 0, none⟩)) 1) W fun t w => Does Try.prog (Instr.storeAt 34 t x) w k := by
  obtain ⟨a, n, c, rfl⟩ := hx
  exact does_of (run_field_r ab W).2.1 (does_of (run_store1 sz_bytes rfl rfl h.q.kab.cell.2.1 (h.q.kab.cell.2.2.2.2.2.2.2.2 1)) (hk _ (h.set (h.q.kab.set1 l _) ⟨a, n, c, rfl⟩ rfl rfl) (Mod.setCell _ _ _ _)))
end
end Go.Proofs.Ytcncgkkilgmphaa
