/-
  Contract: obj.read, its walk.
-/
import Derived.Test.YtcncgkkilgmphaaOk
set_option linter.unusedVariables false
set_option linter.unusedSimpArgs false
namespace Go.Proofs.Ytcncgkkilgmphaa
open Go Go.RowKit

def zObC : Array Value := ObC (.slice none 0 0) (.slice none 0 0) (.slice none 0 0) ob0
structure RdQ (w0 W : World) (rb ab sb : Nat) (dv iv pv : Value) (o : Ob) (s : Src) : Prop where
  e : Ext w0 W
  krb : Kp rb zObC 72 W
  kab : OBlk W ab 72 dv iv pv o
  ksb : SrcB w0 W sb s
  ne : rb ≠ ab
  gr : w0.heap.size ≤ rb
  ga : w0.heap.size ≤ ab
  gs : w0.heap.size ≤ sb
  sl : ∃ a n c, dv = .slice a n c
structure RdSt (w0 W : World) (rb ab sb : Nat) (dv iv pv : Value) (o : Ob) (s : Src) : Prop where
  q : RdQ w0 W rb ab sb dv iv pv o s
  items : Own3 W w0.heap.size 106 iv o.items
  pars : Own W w0.heap.size 9 pv (strsV o.parents)
section
variable {w0 W W' : World} {rb ab sb : Nat} {dv iv pv : Value} {o o' : Ob} {s s' : Src}
theorem RdQ.ext (h : RdQ w0 W rb ab sb dv iv pv o s) (hE : Ext W W') : RdQ w0 W' rb ab sb dv iv pv o s := ⟨h.e.trans hE, h.krb.ext hE, h.kab.ext hE, h.ksb.ext hE, h.ne, h.gr, h.ga, h.gs, h.sl⟩
theorem RdSt.ext (h : RdSt w0 W rb ab sb dv iv pv o s) (hE : Ext W W') : RdSt w0 W' rb ab sb dv iv pv o s := ⟨h.q.ext hE, h.items.ext hE, h.pars.ext hE⟩
theorem SrcB.kp (h : SrcB w0 W sb s) : ∃ cs, Kp sb cs 131 W := let ⟨bv, h1, _⟩ := h; ⟨_, h1⟩
theorem RdQ.abk (h : RdQ w0 W rb ab sb dv iv pv o s) : Kp ab (ObC dv iv pv o) 72 W := h.kab
/-- the bytes are read on -/
theorem RdQ.src (h : RdQ w0 W rb ab sb dv iv pv o s) (hm : Mod (some sb) W W') (hs : SrcB w0 W' sb s') : RdQ w0 W' rb ab sb dv iv pv o s' := by
  obtain ⟨cs, hk⟩ := h.ksb.kp
  refine ⟨Mod.ext h.e hm fun k hk => by cases hk; exact h.gs, h.krb.mod hm fun e => ?_, ?_, hs, h.ne, h.gr, h.ga, h.gs, h.sl⟩
  · exact h.krb.ne hk (by decide) (by cases e; rfl)
  · exact h.abk.mod hm fun e => h.abk.ne hk (by decide) (by cases e; rfl)
theorem RdSt.src (h : RdSt w0 W rb ab sb dv iv pv o s) (hm : Mod (some sb) W W') (hs : SrcB w0 W' sb s') : RdSt w0 W' rb ab sb dv iv pv o s' := by
  obtain ⟨cs, hk⟩ := h.q.ksb.kp
  exact ⟨h.q.src hm hs, h.items.kept hm (.inr (Ne.symm (h.items.neK hk (by decide)))), h.pars.kept hm (.inr (Ne.symm (h.pars.neK hk (by decide))))⟩
/-- the object itself is changed -/
theorem RdQ.obj {dv' iv' pv' : Value} (h : RdQ w0 W rb ab sb dv iv pv o s) (hm : Mod (some ab) W W') (ha : OBlk W' ab 72 dv' iv' pv' o') (hd : ∃ a n c, dv' = .slice a n c) : RdQ w0 W' rb ab sb dv' iv' pv' o' s := by
  obtain ⟨cs, hk⟩ := h.ksb.kp
  refine ⟨Mod.ext h.e hm fun k hk => by cases hk; exact h.ga, h.krb.mod hm fun e => h.ne (by cases e; rfl), ha, h.ksb.mod hm fun e => ?_, h.ne, h.gr, h.ga, h.gs, hd⟩
  exact hk.ne h.abk (by decide) (by cases e; rfl)
/-- other memory is changed -/
theorem RdQ.other {row : Option Nat} (h : RdQ w0 W rb ab sb dv iv pv o s) (hm : Mod row W W') (hr : ∀ k, row = some k → w0.heap.size ≤ k) (h1 : some rb ≠ row) (h2 : some ab ≠ row) (h3 : some sb ≠ row) : RdQ w0 W' rb ab sb dv iv pv o s :=
  ⟨Mod.ext h.e hm hr, h.krb.mod hm h1, h.kab.mod hm h2, h.ksb.mod hm h3, h.ne, h.gr, h.ga, h.gs, h.sl⟩
theorem RdSt.isOb (h : RdSt w0 W rb ab sb dv iv pv o s) (hd : Row W dv (bytesV o.data)) : IsOb W dv iv pv o := ⟨hd, h.items.row, h.pars.row⟩
end
theorem own3_slice {w : World} {base : Nat} {e : TypeId} {v : Value} {l : List It} (h : Own3 w base e v l) : ∃ a n c, v = .slice a n c := by
  obtain ⟨a, c, hv⟩ := h.row.slice
  exact ⟨a, _, c, hv⟩
theorem own_slice {w : World} {base : Nat} {e : TypeId} {v : Value} {xs : List Value} (h : Own w base e v xs) : ∃ a n c, v = .slice a n c := by
  obtain ⟨a, c, hv⟩ := h.slice
  exact ⟨a, _, c, hv⟩
theorem ir_one {W : World} {g : Nat} {x : It} {t : TypeId} (h : Kp g (cellsI x).toArray t W) : IR W (.slice (some ⟨g, 0, none⟩) 1 1) [x] := by
  refine ⟨some ⟨g, 0, none⟩, 1, rfl, by simp [maxLen], by simp, fun j y hj => ⟨_, rfl, ?_⟩⟩
  have e : itV [x] = cellsI x := by simp [itV]
  rw [e] at hj
  have ha : (⟨g, 0, none⟩ : Addr).add j = ⟨g, j, none⟩ := by unfold Addr.add; split <;> simp_all
  rw [ha]
  exact h.cell (by simpa using hj)
def RdC (w0 : World) (rb ab sb : Nat) (dv iv pv : Value) (o : Ob) (x : It) (s : Src) (k : Nat) (W : World) : Prop :=
  match k with
  | 0 => RdSt w0 W rb ab sb dv iv pv o s
  | 1 => RdSt w0 W rb ab sb dv iv pv o (hashP s).2
  | 2 => RdQ w0 W rb ab sb dv iv pv o (hashP s).2 ∧ Own W w0.heap.size 9 pv (strsV o.parents)
  | _ => ∃ iv', RdSt w0 W rb ab sb dv iv' pv { o with items := o.items ++ [x] } (hashP s).2
theorem RdC.ext {w0 W W' : World} {rb ab sb : Nat} {dv iv pv : Value} {o : Ob} {x : It} {s : Src} {k : Nat} (h : RdC w0 rb ab sb dv iv pv o x s k W) (hE : Ext W W') : RdC w0 rb ab sb dv iv pv o x s k W' := by
  match k, h with
  | 0, h => exact RdSt.ext h hE
  | 1, h => exact RdSt.ext h hE
  | 2, h => exact ⟨h.1.ext hE, h.2.ext hE⟩
  | n + 3, ⟨iv', h⟩ => exact ⟨iv', RdSt.ext h hE⟩
theorem RdC.q {w0 W : World} {rb ab sb : Nat} {dv iv pv : Value} {o : Ob} {x : It} {s : Src} {k : Nat} (h : RdC w0 rb ab sb dv iv pv o x s k W) (hk : k ≤ 2) : OBlk W ab 72 dv iv pv o := by
  match k, h, hk with
  | 0, h, _ => exact RdQ.kab (RdSt.q h)
  | 1, h, _ => exact RdQ.kab (RdSt.q h)
  | 2, h, _ => exact RdQ.kab h.1
def FT (ab : Nat) (x : It) (k : Nat) (v : Value) (W : World) : Prop := k ≤ 1 → ∃ g, v = .slice (some ⟨g, 0, none⟩) 1 1 ∧ Kp g (cellsI x).toArray 106 W
theorem FT.off {ab : Nat} {x : It} {k : Nat} {v : Value} {W : World} (h : ¬ k ≤ 1) : FT ab x k v W := fun e => absurd e h
theorem region94_13 {w0 W : World} {rb ab sb : Nat} {dv iv pv : Value} {o : Ob} {s : Src} {mode : Int} {nm : ByteArray} {J : VF 0} (h : RdSt w0 W rb ab sb dv iv pv o s) (hl : o.items.length ≤ 1099511627000)
    (hJ : ∀ W' iv', RdSt w0 W' rb ab sb dv iv' pv { o with items := o.items ++ [⟨mode, nm, (hashP s).1⟩] } (hashP s).2 → J W') :
    DrawP Try.prog 96 (opsOf Try.f94 13) [5, 6, 9, 10] [.pointer (some ⟨ab, 0, none⟩), .pointer (some ⟨sb, 0, none⟩), .int .i64 mode, .string nm] [] J W := by
  have hE := h.q.e
  have fO := fun W => run_field_o ab W
  refine h94_13 w0 (RdC w0 rb ab sb dv iv pv o ⟨mode, nm, (hashP s).1⟩ s) (FcV (.string (hashP s).1)) (FcV (.agg (cellsI ⟨mode, nm, (hashP s).1⟩).toArray)) (FT ab ⟨mode, nm, (hashP s).1⟩)
    (fun k v W => k = 2 → Own3 W w0.heap.size 106 v (o.items ++ [⟨mode, nm, (hashP s).1⟩])) hE (FcV.st _) (FcV.st _) (fun k v W W' hE h hk => by obtain ⟨g, g1, g2⟩ := h hk; exact ⟨g, g1, g2.ext hE⟩) (fun k v W W' hE h hk => (h hk).ext hE) (h.ext (Ext.drawn W)) ?_
  refine qx (fun W => (fO W).2.2.1) (qc (fun W' hS => by obtain ⟨_, k, _, hk, hC⟩ := hS; exact run_load1 agg_items_o (hC.q (by omega)).cell.2.2.1) (qx (fun W => (fO W).2.2.1) ⟨?_, ?_, ?_, ?_, ?_, ?_⟩))
  · intro W1 hA hC
    have hR : RdSt w0 W1 rb ab sb dv iv pv o s := hC
    obtain ⟨cs, hk⟩ := hR.q.ksb.kp
    refine (hashS_spec hR.q.ksb hR.q.e hR.q.gs).mono fun v W2 ⟨g1, g2, g3⟩ => ?_
    have hR2 := hR.src g3 g2
    refine ⟨⟨g3.size, hR2.q.e⟩, hR2, g1, fun v hv _ => ?_, trivial⟩
    obtain ⟨g, e1, e2⟩ := hv (by omega)
    exact ⟨g, e1, e2.mod g3 fun e => e2.ne hk (by decide) (by cases e; rfl)⟩
  · rintro t k hk1 hk2 W1 hA hC rfl
    exact does_of (run_buildI_o ⟨mode, nm, (hashP s).1⟩ W1) ⟨Ext.refl _, hC, rfl⟩
  · rintro t k hk1 hk2 W1 hA hC rfl
    exact does_of (run_buildSliceI_o _ W1) ⟨ext_any _ W1, hC.ext (ext_any _ W1), fun _ => ⟨_, rfl, heap_alloc_new W1 _⟩⟩
  · intro t W1 hA hC hF
    have hR : RdSt w0 W1 rb ab sb dv iv pv o (hashP s).2 := hC
    obtain ⟨g, rfl, hg⟩ := hF (by omega)
    obtain ⟨cs, hk⟩ := hR.q.ksb.kp
    refine hR.items.push_o (ir_one hg) (by omega) hR.q.e.size fun v W2 g1 g2 g3 => ?_
    have q1 := hR.items.neK hR.q.krb (by decide)
    have q2 := hR.items.neK hR.q.abk (by decide)
    have q3 := hR.items.neK hk (by decide)
    have hR2 := hR.q.other g2 (fun k hk => (hR.items.lt k hk).1) q1 q2 q3
    refine ⟨⟨g2.size, hR2.e⟩, ⟨hR2, hR.pars.kept g2 ?_⟩, fun _ => g1, (by intros; assumption), (by intros; assumption), (by intros; first | omega | exact FT.off (by omega)), trivial⟩
    by_cases hp : pv.ownBlock = none
    · exact .inl hp
    · refine .inr fun e => ?_
      obtain ⟨b, hb⟩ := Option.ne_none_iff_exists'.1 hp
      obtain ⟨cur, hc⟩ := hR.pars.block' b hb
      exact hR.items.neK (t := 9) hc (by decide) (by rw [← e, hb])
  · intro t W1 hA hC hF
    obtain ⟨hQ, hP⟩ : RdQ w0 W1 rb ab sb dv iv pv o (hashP s).2 ∧ Own W1 w0.heap.size 9 pv (strsV o.parents) := hC
    have hI := hF rfl
    obtain ⟨a, n, c, rfl⟩ := own3_slice hI
    have hm := Mod.setCell W1 ab 2 (.slice a n c)
    have hQ2 := hQ.obj hm (hQ.kab.set2 (o.items ++ [⟨mode, nm, (hashP s).1⟩]) (.slice a n c)) hQ.sl
    refine does_of (run_store1 sz_items_o rfl rfl (hQ.kab.cell.2.2.1) (hQ.kab.cell.2.2.2.2.2.2.2.2 2)) ⟨⟨hm.size, hQ2.e⟩, ⟨.slice a n c, hQ2, hI.kept hm (.inr (Ne.symm (hI.neK hQ.abk (by decide)))), hP.kept hm (.inr (Ne.symm (hP.neK hQ.abk (by decide))))⟩, trivial, (by intros; assumption), (by intros; assumption), (by intros; first | omega | exact FT.off (by omega)), (by intros; first | omega | exact FT.off (by omega)), trivial⟩
  · intro W1 hA hC
    obtain ⟨iv', hR⟩ : ∃ iv', RdSt w0 W1 rb ab sb dv iv' pv { o with items := o.items ++ [⟨mode, nm, (hashP s).1⟩] } (hashP s).2 := hC
    exact hJ W1 iv' hR
end Go.Proofs.Ytcncgkkilgmphaa
